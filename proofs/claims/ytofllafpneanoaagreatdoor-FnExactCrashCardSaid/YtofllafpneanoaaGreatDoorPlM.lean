/- What is marked is held: row by row. -/
import Derived.Test.YtofllafpneanoaaGreatDoorFilP
import Derived.Test.YtofllafpneanoaaGreatDoorFunN3
import Derived.Test.YtofllafpneanoaaGreatDoorFunN4
namespace F5
open Go Go.Fil Go.Proofs
set_option maxRecDepth 100000
set_option linter.unusedVariables false
set_option linter.unusedSimpArgs false
theorem br_t' {ρ:Type} {x y:Option ρ}:br true x y = x:=rfl
theorem br_f' {ρ:Type} {x y:Option ρ}:br false x y = y:=rfl
theorem ne_self' {α:Type} [BEq α] [LawfulBEq α] (a:α):(a != a) = false:=by simp [bne]
theorem strEq_self' (x:ByteArray):strEq x x = true:=by unfold strEq; simp
theorem getD_setM {α:Type} (o:List α) (i:Nat) (a z:α) (h:i < o.length):(o.set i a).getD i z = a:=by
 rw [List.getD_eq_getElem?_getD,List.getElem?_set,if_pos rfl,if_pos h]; rfl
theorem set_setM {α:Type} (o:List α) (i:Nat) (a b:α):(o.set i a).set i b = o.set i b:=by
 apply List.ext_getElem?
 intro j
 simp only [List.getElem?_set,List.length_set]
 by_cases e:i = j
 ·subst e; simp
 ·simp [e]
/-- Marking x from k on comes to k', x'; and x' is then held. -/
def MH {α:Type} (M:α→Int→Option (Int × α)) (H:α→Int→Option Int) (C:Nat) (ok:α→Prop):Prop :=
 ∀ (x:α) (k:Int),ok x→1≤k→k + C≤4611686018427387904→∃ k' x',M x k = some (k',x')∧H x' k = some k'∧k≤k'∧k'≤k + C
theorem mh_row {α:Type} {C:Nat} {ok:α→Prop} {Lm:Nat→Int→Int→List α→Option (Int × List α)} {Lh:Nat→List α→Int→Int→Option Int}
  (endm:∀ f k (o:List α),Lm (f + 1) k (o.length:Int) o = some (k,o))
  (endh:∀ f (x:List α) k,Lh (f + 1) x k (x.length:Int) = some k)
  (one:∀ (k:Int) (e:α),1≤k→k + C≤4611686018427387904→ok e→∃ k' e',k≤k'∧k'≤k + C ∧
   (∀ f (i:Nat) (o:List α),o.length≤1048576→o[i]? = some e→Lm (f + 1) k (i:Int) o = Lm f k' ((i:Int) + 1) (o.set i e')) ∧
   (∀ f (i:Nat) (x:List α),x.length≤1048576→x[i]? = some e'→Lh (f + 1) x k (i:Int) = Lh f x k' ((i:Int) + 1))) :
  ∀ (n i f:Nat) (k:Int) (o:List α),i + n = o.length→o.length≤1048576→n < f→1≤k→k + (n * C:Nat)≤4611686018427387904→(∀ j e,o[j]? = some e→i≤j→ok e) →
   ∃ k' es,k≤k'∧k'≤k + (n * C:Nat)∧Lm f k (i:Int) o = some (k',o.take i ++ es)∧es.length = n∧∀ f' (pre:List α),pre.length = i→n < f'→Lh f' (pre ++ es) k (i:Int) = some k'
 | 0,i,f + 1,k,o,h1,h2,h3,h4,h5,h6=>by
  refine ⟨k,[],by omega,by omega,?_,rfl,fun f' pre hp hf=>?_⟩
  ·have:(i:Int) = (o.length:Int):=by omega
   rw [this,endm,List.append_nil,List.take_of_length_le (by omega)]
  ·cases f' with
   | zero=>omega
   | succ f' =>
    rw [List.append_nil,← hp,endh]
 | n + 1,i,f + 1,k,o,h1,h2,h3,h4,h5,h6=>by
  have hi:i < o.length:=by omega
  have hmul:(n + 1) * C = n * C + C:=Nat.succ_mul n C
  have hg:o[i]? = some o[i]:=List.getElem?_eq_getElem hi
  obtain ⟨k1,e',g1,g2,g3,g4⟩:=one k o[i] h4 (by omega) (h6 i _ hg (Nat.le_refl _))
  obtain ⟨k',es,r1,r2,r3,r4,r5⟩:=mh_row endm endh one n (i + 1) f k1 (o.set i e') (by simp; omega) (by simpa using h2) (by omega) (by omega) (by omega) (fun j e hj hij=>by
   rw [List.getElem?_set,if_neg (by omega)] at hj
   exact h6 j e hj (by omega))
  refine ⟨k',e' :: es,by omega,by omega,?_,by simp [r4],fun f' pre hp hf=>?_⟩
  ·rw [g3 f i o h2 hg,show ((i:Int) + 1) = ((i + 1:Nat):Int) from rfl,r3]
   congr 2
   have h7:(o.set i e').take (i + 1) = o.take i ++ [e']:=by
    rw [List.take_add_one,List.getElem?_set,if_pos rfl,if_pos hi,List.take_set_of_le (Nat.le_refl _)]
    rfl
   rw [h7,List.append_assoc]; rfl
  ·cases f' with
   | zero=>omega
   | succ f' =>
    have h8:(pre ++ e' :: es)[i]? = some e':=by
     rw [List.getElem?_append_right (by omega),hp,Nat.sub_self]; rfl
    rw [g4 f' i _ (by simp [r4]; omega) h8,show ((i:Int) + 1) = ((i + 1:Nat):Int) from rfl]
    have:=r5 f' (pre ++ [e']) (by simp [hp]) (by omega)
    rwa [List.append_assoc] at this
 | _,_,0,_,_,_,_,h,_,_,_=>absurd h (Nat.not_lt_zero _)
theorem mh_list {α:Type} {C:Nat} {ok:α→Prop} {K:Nat} (hK:maxLen + 2≤K) {M:List α→Int→Option (Int × List α)} {H:List α→Int→Option Int} {Lm:Nat→Int→Int→List α→Option (Int × List α)} {Lh:Nat→List α→Int→Int→Option Int}
  (hM:∀ x k,M x k = Lm K k 0 x) (hH:∀ x k,H x k = Lh K x k 0)
  (endm:∀ f k (o:List α),Lm (f + 1) k (o.length:Int) o = some (k,o))
  (endh:∀ f (x:List α) k,Lh (f + 1) x k (x.length:Int) = some k)
  (one:∀ (k:Int) (e:α),1≤k→k + C≤4611686018427387904→ok e→∃ k' e',k≤k'∧k'≤k + C ∧
   (∀ f (i:Nat) (o:List α),o.length≤1048576→o[i]? = some e→Lm (f + 1) k (i:Int) o = Lm f k' ((i:Int) + 1) (o.set i e')) ∧
   (∀ f (i:Nat) (x:List α),x.length≤1048576→x[i]? = some e'→Lh (f + 1) x k (i:Int) = Lh f x k' ((i:Int) + 1))) :
  MH M H (1048576 * C) (fun l=>l.length≤1048576∧∀ e∈l,ok e):=by
 intro x k hx h1 h2
 have hm:maxLen = 2 ^ 63 - 1:=rfl
 have hle:x.length * C≤1048576 * C:=Nat.mul_le_mul_right C hx.1
 obtain ⟨k',es,r1,r2,r3,r4,r5⟩:=mh_row endm endh one x.length 0 K k x (by omega) hx.1 (by have:=hx.1; omega) h1 (by omega) (fun j e hj _=>hx.2 e (List.mem_of_getElem? hj))
 refine ⟨k',es,?_,?_,r1,by omega⟩
 ·rw [hM]; simpa using r3
 ·rw [hH]
  have:=r5 K [] rfl (by have:=hx.1; omega)
  simpa using this
theorem m_text {K:Nat}:∀ (n k:Nat) (v:Int) (s:ByteArray),0≤v→v≤4611686018427387904→v < 10 ^ n→n < k→s.size + n≤100→∃ r,Z5b K k v s = some r
 | 0,k + 1,v,s,h0,_,h1,_,h3=>by
  have:v = 0:=by simp at h1; omega
  subst this
  have e2:(⟨#[109]⟩:ByteArray).size = 1:=rfl
  rw [Z5b.step,br_false (by decide),br_true (decide_eq_true (by rw [e2]; omega))]
  exact ⟨_,rfl⟩
 | n + 1,k + 1,v,s,h0,hb,h1,hk,h3=>by
  by_cases hv:v > 0
  ·have e1:v.tdiv 10 = v / 10:=Int.tdiv_eq_ediv_of_nonneg h0
   have hlt:v / 10 < 10 ^ n:=by
    have:(10:Int) ^ (n + 1) = 10 ^ n * 10:=by rw [Int.pow_succ]
    omega
   have e2:∀ x:Int,(strOf [x]).size = 1:=fun x=>rfl
   rw [Z5b.step,br_true (by simpa using hv),br_false (by decide),br_true (decide_eq_true (by rw [e2]; omega)),br_false (by decide),e1,wrap_id (by omega) (by omega)]
   exact m_text n k (v / 10) _ (by omega) (by omega) hlt (by omega) (by rw [ByteArray.size_append,e2]; omega)
  ·have:v = 0:=by omega
   subst this
   have e2:(⟨#[109]⟩:ByteArray).size = 1:=rfl
   rw [Z5b.step,br_false (by decide),br_true (decide_eq_true (by rw [e2]; omega))]
   exact ⟨_,rfl⟩
 | _,0,_,_,_,_,_,h,_=>absurd h (Nat.not_lt_zero _)
theorem markTextM {K:Nat} (hK:maxLen + 2≤K) (k:Int) (h1:1≤k) (h2:k≤4611686018427387904):∃ s,Z35 K k = some s:=by
 rw [Z35.eq,br_false (by simp; omega)]
 have hm:maxLen = 2 ^ 63 - 1:=rfl
 exact m_text 20 K k _ (by omega) (by omega) (by omega) (by omega) (show 0 + 20≤100 by omega)
theorem d30n:decide ((3:Nat) = 0) = false:=rfl
theorem d30i:decide ((3:Int) = 0) = false:=rfl
theorem one_ByteS {K:Nat} (hK:maxLen + 2≤K) (k:Int) (e:Int) (h1:1≤k) (h2:k + (1:Nat)≤4611686018427387904) (he0:True):∃ (k':Int) (e':Int),k≤k'∧k'≤k + (1:Nat) ∧
  (∀ f (i:Nat) (o:List Int),o.length≤1048576→o[i]? = some e→Z3v K (f + 1) k (i:Int) o = Z3v K f k' ((i:Int) + 1) (o.set i e')) ∧
  (∀ f (i:Nat) (x:List Int),x.length≤1048576→x[i]? = some e'→Z40 K (f + 1) x k (i:Int) = Z40 K f x k' ((i:Int) + 1)):=by
 skip
 refine ⟨k + 1,(IntKind.wrap .u8 k),by omega,by omega,fun f i o hl he=>?_,fun f i x hl he=>?_⟩
 ·obtain ⟨hi,rfl⟩:=List.getElem?_eq_some_iff.1 he
  have hc:(decide (0≤(i:Int)) && decide ((i:Int) < (o.length:Int))) = true:=in_true (by omega) (by omega)
  have hg:∀ z,o.getD i z = o[i]:=fun z=>by rw [List.getD_eq_getElem?_getD,he]; rfl
  rw [Z3v.step,br_true (by simp; omega)]
  simp (disch:=omega) only [lt,Int.toNat_natCast,List.length_set,hc,br_t',br_f',d30n,d30i,wrap_id,getD_setM,set_setM,hg,Option.bind_some]
 ·obtain ⟨hi,hx⟩:=List.getElem?_eq_some_iff.1 he
  have hc:(decide (0≤(i:Int)) && decide ((i:Int) < (x.length:Int))) = true:=in_true (by omega) (by omega)
  have hg:∀ z,x.getD i z = (IntKind.wrap .u8 k):=fun z=>by rw [List.getD_eq_getElem?_getD,he]; rfl
  rw [Z40.step,br_true (by simp; omega)]
  simp (disch:=omega) only [Int.toNat_natCast,hc,br_t',br_f',d30n,d30i,wrap_id,hg,ne_self',strEq_self',beq_self_eq_true,Bool.not_true,Option.bind_some]
theorem mh_ByteS {K:Nat} (hK:maxLen + 2≤K):MH (Z4o K) (Z4r K) (1048576 * (1)) (fun l:List Int=>l.length≤1048576∧∀ e∈l,(fun e:Int=>True) e) :=
 mh_list hK (Lm:=fun f k i o=>Z3v K f k i o) (Lh:=fun f x k i=>Z40 K f x k i) (fun x k=>Z4o.eq K x k) (fun x k=>Z4r.eq K x k)
  (fun f k o=>by rw [Z3v.step,br_false (by simp)]) (fun f x k=>by rw [Z40.step,br_false (by simp)])
  (fun k e h1 h2 h3=>one_ByteS hK k e h1 h2 h3)
theorem one_ByteSS {K:Nat} (hK:maxLen + 2≤K) (k:Int) (e:(List Int)) (h1:1≤k) (h2:k + (1048576:Nat)≤4611686018427387904) (he0:e.length≤1048576):∃ (k':Int) (e':(List Int)),k≤k'∧k'≤k + (1048576:Nat) ∧
  (∀ f (i:Nat) (o:List (List Int)),o.length≤1048576→o[i]? = some e→Z3d K (f + 1) k (i:Int) o = Z3d K f k' ((i:Int) + 1) (o.set i e')) ∧
  (∀ f (i:Nat) (x:List (List Int)),x.length≤1048576→x[i]? = some e'→Z3g K (f + 1) x k (i:Int) = Z3g K f x k' ((i:Int) + 1)):=by
 obtain ⟨k0,b0,hm0,hh0,hl0,hu0⟩:=mh_ByteS hK (e) (k) ⟨he0,fun _ _=>trivial⟩ (by omega) (by omega)
 have hn0:decide (k0 < 0) = false:=decide_eq_false (by omega)
 refine ⟨k0,b0,by omega,by omega,fun f i o hl he=>?_,fun f i x hl he=>?_⟩
 ·obtain ⟨hi,rfl⟩:=List.getElem?_eq_some_iff.1 he
  have hc:(decide (0≤(i:Int)) && decide ((i:Int) < (o.length:Int))) = true:=in_true (by omega) (by omega)
  have hg:∀ z,o.getD i z = o[i]:=fun z=>by rw [List.getD_eq_getElem?_getD,he]; rfl
  rw [Z3d.step,br_true (by simp; omega)]
  simp (disch:=omega) only [lt,Int.toNat_natCast,List.length_set,hc,br_t',br_f',d30n,d30i,wrap_id,getD_setM,set_setM,hg,Option.bind_some,hm0]
 ·obtain ⟨hi,hx⟩:=List.getElem?_eq_some_iff.1 he
  have hc:(decide (0≤(i:Int)) && decide ((i:Int) < (x.length:Int))) = true:=in_true (by omega) (by omega)
  have hg:∀ z,x.getD i z = b0:=fun z=>by rw [List.getD_eq_getElem?_getD,he]; rfl
  rw [Z3g.step,br_true (by simp; omega)]
  simp (disch:=omega) only [Int.toNat_natCast,hc,br_t',br_f',d30n,d30i,wrap_id,hg,ne_self',strEq_self',beq_self_eq_true,Bool.not_true,Option.bind_some,hh0,hn0]
theorem mh_ByteSS {K:Nat} (hK:maxLen + 2≤K):MH (Z8y K) (Z90 K) (1048576 * (1048576)) (fun l:List (List Int)=>l.length≤1048576∧∀ e∈l,(fun e:(List Int)=>e.length≤1048576) e) :=
 mh_list hK (Lm:=fun f k i o=>Z3d K f k i o) (Lh:=fun f x k i=>Z3g K f x k i) (fun x k=>Z8y.eq K x k) (fun x k=>Z90.eq K x k)
  (fun f k o=>by rw [Z3d.step,br_false (by simp)]) (fun f x k=>by rw [Z3g.step,br_false (by simp)])
  (fun k e h1 h2 h3=>one_ByteSS hK k e h1 h2 h3)
theorem one_WrS {K:Nat} (hK:maxLen + 2≤K) (k:Int) (e:Z22) (h1:1≤k) (h2:k + (1048577:Nat)≤4611686018427387904) (he0:e.2.1.length≤1048576):∃ (k':Int) (e':Z22),k≤k'∧k'≤k + (1048577:Nat) ∧
  (∀ f (i:Nat) (o:List Z22),o.length≤1048576→o[i]? = some e→Z4p K (f + 1) k (i:Int) o = Z4p K f k' ((i:Int) + 1) (o.set i e')) ∧
  (∀ f (i:Nat) (x:List Z22),x.length≤1048576→x[i]? = some e'→Z4s K (f + 1) x k (i:Int) = Z4s K f x k' ((i:Int) + 1)):=by
 obtain ⟨k0,b0,hm0,hh0,hl0,hu0⟩:=mh_ByteS hK (e.2.1) (k + 1) ⟨he0,fun _ _=>trivial⟩ (by omega) (by omega)
 have hn0:decide (k0 < 0) = false:=decide_eq_false (by omega)
 refine ⟨k0,(k,b0,()),by omega,by omega,fun f i o hl he=>?_,fun f i x hl he=>?_⟩
 ·obtain ⟨hi,rfl⟩:=List.getElem?_eq_some_iff.1 he
  have hc:(decide (0≤(i:Int)) && decide ((i:Int) < (o.length:Int))) = true:=in_true (by omega) (by omega)
  have hg:∀ z,o.getD i z = o[i]:=fun z=>by rw [List.getD_eq_getElem?_getD,he]; rfl
  rw [Z4p.step,br_true (by simp; omega)]
  simp (disch:=omega) only [lt,Int.toNat_natCast,List.length_set,hc,br_t',br_f',d30n,d30i,wrap_id,getD_setM,set_setM,hg,Option.bind_some,hm0]
 ·obtain ⟨hi,hx⟩:=List.getElem?_eq_some_iff.1 he
  have hc:(decide (0≤(i:Int)) && decide ((i:Int) < (x.length:Int))) = true:=in_true (by omega) (by omega)
  have hg:∀ z,x.getD i z = (k,b0,()):=fun z=>by rw [List.getD_eq_getElem?_getD,he]; rfl
  rw [Z4s.step,br_true (by simp; omega)]
  simp (disch:=omega) only [Int.toNat_natCast,hc,br_t',br_f',d30n,d30i,wrap_id,hg,ne_self',strEq_self',beq_self_eq_true,Bool.not_true,Option.bind_some,hh0,hn0]
theorem mh_WrS {K:Nat} (hK:maxLen + 2≤K):MH (Zc6 K) (Zc8 K) (1048576 * (1048577)) (fun l:List Z22=>l.length≤1048576∧∀ e∈l,(fun e:Z22=>e.2.1.length≤1048576) e) :=
 mh_list hK (Lm:=fun f k i o=>Z4p K f k i o) (Lh:=fun f x k i=>Z4s K f x k i) (fun x k=>Zc6.eq K x k) (fun x k=>Zc8.eq K x k)
  (fun f k o=>by rw [Z4p.step,br_false (by simp)]) (fun f x k=>by rw [Z4s.step,br_false (by simp)])
  (fun k e h1 h2 h3=>one_WrS hK k e h1 h2 h3)
theorem one_DbS {K:Nat} (hK:maxLen + 2≤K) (k:Int) (e:Zc) (h1:1≤k) (h2:k + (5:Nat)≤4611686018427387904) (he0:True):∃ (k':Int) (e':Zc),k≤k'∧k'≤k + (5:Nat) ∧
  (∀ f (i:Nat) (o:List Zc),o.length≤1048576→o[i]? = some e→Z4q K (f + 1) k (i:Int) o = Z4q K f k' ((i:Int) + 1) (o.set i e')) ∧
  (∀ f (i:Nat) (x:List Zc),x.length≤1048576→x[i]? = some e'→Z4t K (f + 1) x k (i:Int) = Z4t K f x k' ((i:Int) + 1)):=by
 obtain ⟨s0,hs0⟩:=markTextM hK (k) (by omega) (by omega)
 refine ⟨k + 1 + 1 + 1 + 1 + 1,(s0,k + 1,k + 1 + 1,k + 1 + 1 + 1,k + 1 + 1 + 1 + 1,()),by omega,by omega,fun f i o hl he=>?_,fun f i x hl he=>?_⟩
 ·obtain ⟨hi,rfl⟩:=List.getElem?_eq_some_iff.1 he
  have hc:(decide (0≤(i:Int)) && decide ((i:Int) < (o.length:Int))) = true:=in_true (by omega) (by omega)
  have hg:∀ z,o.getD i z = o[i]:=fun z=>by rw [List.getD_eq_getElem?_getD,he]; rfl
  rw [Z4q.step,br_true (by simp; omega)]
  simp (disch:=omega) only [lt,Int.toNat_natCast,List.length_set,hc,br_t',br_f',d30n,d30i,wrap_id,getD_setM,set_setM,hg,Option.bind_some,hs0]
 ·obtain ⟨hi,hx⟩:=List.getElem?_eq_some_iff.1 he
  have hc:(decide (0≤(i:Int)) && decide ((i:Int) < (x.length:Int))) = true:=in_true (by omega) (by omega)
  have hg:∀ z,x.getD i z = (s0,k + 1,k + 1 + 1,k + 1 + 1 + 1,k + 1 + 1 + 1 + 1,()):=fun z=>by rw [List.getD_eq_getElem?_getD,he]; rfl
  rw [Z4t.step,br_true (by simp; omega)]
  simp (disch:=omega) only [Int.toNat_natCast,hc,br_t',br_f',d30n,d30i,wrap_id,hg,ne_self',strEq_self',beq_self_eq_true,Bool.not_true,Option.bind_some,hs0]
theorem mh_DbS {K:Nat} (hK:maxLen + 2≤K):MH (Zc7 K) (Zc9 K) (1048576 * (5)) (fun l:List Zc=>l.length≤1048576∧∀ e∈l,(fun e:Zc=>True) e) :=
 mh_list hK (Lm:=fun f k i o=>Z4q K f k i o) (Lh:=fun f x k i=>Z4t K f x k i) (fun x k=>Zc7.eq K x k) (fun x k=>Zc9.eq K x k)
  (fun f k o=>by rw [Z4q.step,br_false (by simp)]) (fun f x k=>by rw [Z4t.step,br_false (by simp)])
  (fun k e h1 h2 h3=>one_DbS hK k e h1 h2 h3)
theorem one_AskerS {K:Nat} (hK:maxLen + 2≤K) (k:Int) (e:Ze) (h1:1≤k) (h2:k + (8:Nat)≤4611686018427387904) (he0:True):∃ (k':Int) (e':Ze),k≤k'∧k'≤k + (8:Nat) ∧
  (∀ f (i:Nat) (o:List Ze),o.length≤1048576→o[i]? = some e→Z3e K (f + 1) k (i:Int) o = Z3e K f k' ((i:Int) + 1) (o.set i e')) ∧
  (∀ f (i:Nat) (x:List Ze),x.length≤1048576→x[i]? = some e'→Z3h K (f + 1) x k (i:Int) = Z3h K f x k' ((i:Int) + 1)):=by
 obtain ⟨s0,hs0⟩:=markTextM hK (k + 1) (by omega) (by omega)
 obtain ⟨s1,hs1⟩:=markTextM hK (k + 1 + 1 + 1 + 1 + 1) (by omega) (by omega)
 refine ⟨k + 1 + 1 + 1 + 1 + 1 + 1 + 1 + 1,(k,s0,k + 1 + 1,k + 1 + 1 + 1,k + 1 + 1 + 1 + 1,s1,k + 1 + 1 + 1 + 1 + 1 + 1,k + 1 + 1 + 1 + 1 + 1 + 1 + 1,()),by omega,by omega,fun f i o hl he=>?_,fun f i x hl he=>?_⟩
 ·obtain ⟨hi,rfl⟩:=List.getElem?_eq_some_iff.1 he
  have hc:(decide (0≤(i:Int)) && decide ((i:Int) < (o.length:Int))) = true:=in_true (by omega) (by omega)
  have hg:∀ z,o.getD i z = o[i]:=fun z=>by rw [List.getD_eq_getElem?_getD,he]; rfl
  rw [Z3e.step,br_true (by simp; omega)]
  simp (disch:=omega) only [lt,Int.toNat_natCast,List.length_set,hc,br_t',br_f',d30n,d30i,wrap_id,getD_setM,set_setM,hg,Option.bind_some,hs0,hs1]
 ·obtain ⟨hi,hx⟩:=List.getElem?_eq_some_iff.1 he
  have hc:(decide (0≤(i:Int)) && decide ((i:Int) < (x.length:Int))) = true:=in_true (by omega) (by omega)
  have hg:∀ z,x.getD i z = (k,s0,k + 1 + 1,k + 1 + 1 + 1,k + 1 + 1 + 1 + 1,s1,k + 1 + 1 + 1 + 1 + 1 + 1,k + 1 + 1 + 1 + 1 + 1 + 1 + 1,()):=fun z=>by rw [List.getD_eq_getElem?_getD,he]; rfl
  rw [Z3h.step,br_true (by simp; omega)]
  simp (disch:=omega) only [Int.toNat_natCast,hc,br_t',br_f',d30n,d30i,wrap_id,hg,ne_self',strEq_self',beq_self_eq_true,Bool.not_true,Option.bind_some,hs0,hs1]
theorem mh_AskerS {K:Nat} (hK:maxLen + 2≤K):MH (Z8z K) (Z91 K) (1048576 * (8)) (fun l:List Ze=>l.length≤1048576∧∀ e∈l,(fun e:Ze=>True) e) :=
 mh_list hK (Lm:=fun f k i o=>Z3e K f k i o) (Lh:=fun f x k i=>Z3h K f x k i) (fun x k=>Z8z.eq K x k) (fun x k=>Z91.eq K x k)
  (fun f k o=>by rw [Z3e.step,br_false (by simp)]) (fun f x k=>by rw [Z3h.step,br_false (by simp)])
  (fun k e h1 h2 h3=>one_AskerS hK k e h1 h2 h3)
theorem one_LineS {K:Nat} (hK:maxLen + 2≤K) (k:Int) (e:Zn) (h1:1≤k) (h2:k + (7:Nat)≤4611686018427387904) (he0:True):∃ (k':Int) (e':Zn),k≤k'∧k'≤k + (7:Nat) ∧
  (∀ f (i:Nat) (o:List Zn),o.length≤1048576→o[i]? = some e→Z3x K (f + 1) k (i:Int) o = Z3x K f k' ((i:Int) + 1) (o.set i e')) ∧
  (∀ f (i:Nat) (x:List Zn),x.length≤1048576→x[i]? = some e'→Z42 K (f + 1) x k (i:Int) = Z42 K f x k' ((i:Int) + 1)):=by
 obtain ⟨s0,hs0⟩:=markTextM hK (k + 1) (by omega) (by omega)
 refine ⟨k + 1 + 1 + 1 + 1 + 1 + 1 + 1,(k,s0,k + 1 + 1,k + 1 + 1 + 1,k + 1 + 1 + 1 + 1,k + 1 + 1 + 1 + 1 + 1,k + 1 + 1 + 1 + 1 + 1 + 1,()),by omega,by omega,fun f i o hl he=>?_,fun f i x hl he=>?_⟩
 ·obtain ⟨hi,rfl⟩:=List.getElem?_eq_some_iff.1 he
  have hc:(decide (0≤(i:Int)) && decide ((i:Int) < (o.length:Int))) = true:=in_true (by omega) (by omega)
  have hg:∀ z,o.getD i z = o[i]:=fun z=>by rw [List.getD_eq_getElem?_getD,he]; rfl
  rw [Z3x.step,br_true (by simp; omega)]
  simp (disch:=omega) only [lt,Int.toNat_natCast,List.length_set,hc,br_t',br_f',d30n,d30i,wrap_id,getD_setM,set_setM,hg,Option.bind_some,hs0]
 ·obtain ⟨hi,hx⟩:=List.getElem?_eq_some_iff.1 he
  have hc:(decide (0≤(i:Int)) && decide ((i:Int) < (x.length:Int))) = true:=in_true (by omega) (by omega)
  have hg:∀ z,x.getD i z = (k,s0,k + 1 + 1,k + 1 + 1 + 1,k + 1 + 1 + 1 + 1,k + 1 + 1 + 1 + 1 + 1,k + 1 + 1 + 1 + 1 + 1 + 1,()):=fun z=>by rw [List.getD_eq_getElem?_getD,he]; rfl
  rw [Z42.step,br_true (by simp; omega)]
  simp (disch:=omega) only [Int.toNat_natCast,hc,br_t',br_f',d30n,d30i,wrap_id,hg,ne_self',strEq_self',beq_self_eq_true,Bool.not_true,Option.bind_some,hs0]
theorem mh_LineS {K:Nat} (hK:maxLen + 2≤K):MH (Za3 K) (Za5 K) (1048576 * (7)) (fun l:List Zn=>l.length≤1048576∧∀ e∈l,(fun e:Zn=>True) e) :=
 mh_list hK (Lm:=fun f k i o=>Z3x K f k i o) (Lh:=fun f x k i=>Z42 K f x k i) (fun x k=>Za3.eq K x k) (fun x k=>Za5.eq K x k)
  (fun f k o=>by rw [Z3x.step,br_false (by simp)]) (fun f x k=>by rw [Z42.step,br_false (by simp)])
  (fun k e h1 h2 h3=>one_LineS hK k e h1 h2 h3)
theorem one_SockS {K:Nat} (hK:maxLen + 2≤K) (k:Int) (e:Z8) (h1:1≤k) (h2:k + (2097158:Nat)≤4611686018427387904) (he0:e.2.2.2.2.1.length≤1048576∧e.2.2.2.2.2.1.length≤1048576):∃ (k':Int) (e':Z8),k≤k'∧k'≤k + (2097158:Nat) ∧
  (∀ f (i:Nat) (o:List Z8),o.length≤1048576→o[i]? = some e→Z3w K (f + 1) k (i:Int) o = Z3w K f k' ((i:Int) + 1) (o.set i e')) ∧
  (∀ f (i:Nat) (x:List Z8),x.length≤1048576→x[i]? = some e'→Z41 K (f + 1) x k (i:Int) = Z41 K f x k' ((i:Int) + 1)):=by
 obtain ⟨k0,b0,hm0,hh0,hl0,hu0⟩:=mh_ByteS hK (e.2.2.2.2.1) (k + 1 + 1 + 1 + 1) ⟨he0.1,fun _ _=>trivial⟩ (by omega) (by omega)
 have hn0:decide (k0 < 0) = false:=decide_eq_false (by omega)
 obtain ⟨k1,b1,hm1,hh1,hl1,hu1⟩:=mh_ByteS hK (e.2.2.2.2.2.1) (k0) ⟨he0.2,fun _ _=>trivial⟩ (by omega) (by omega)
 have hn1:decide (k1 < 0) = false:=decide_eq_false (by omega)
 refine ⟨k1 + 1 + 1,(k,k + 1,k + 1 + 1,(((Int.tmod (k + 1 + 1 + 1) 3):Int) == 0),b0,b1,k1,k1 + 1,()),by omega,by omega,fun f i o hl he=>?_,fun f i x hl he=>?_⟩
 ·obtain ⟨hi,rfl⟩:=List.getElem?_eq_some_iff.1 he
  have hc:(decide (0≤(i:Int)) && decide ((i:Int) < (o.length:Int))) = true:=in_true (by omega) (by omega)
  have hg:∀ z,o.getD i z = o[i]:=fun z=>by rw [List.getD_eq_getElem?_getD,he]; rfl
  rw [Z3w.step,br_true (by simp; omega)]
  simp (disch:=omega) only [lt,Int.toNat_natCast,List.length_set,hc,br_t',br_f',d30n,d30i,wrap_id,getD_setM,set_setM,hg,Option.bind_some,hm0,hm1]
 ·obtain ⟨hi,hx⟩:=List.getElem?_eq_some_iff.1 he
  have hc:(decide (0≤(i:Int)) && decide ((i:Int) < (x.length:Int))) = true:=in_true (by omega) (by omega)
  have hg:∀ z,x.getD i z = (k,k + 1,k + 1 + 1,(((Int.tmod (k + 1 + 1 + 1) 3):Int) == 0),b0,b1,k1,k1 + 1,()):=fun z=>by rw [List.getD_eq_getElem?_getD,he]; rfl
  rw [Z41.step,br_true (by simp; omega)]
  simp (disch:=omega) only [Int.toNat_natCast,hc,br_t',br_f',d30n,d30i,wrap_id,hg,ne_self',strEq_self',beq_self_eq_true,Bool.not_true,Option.bind_some,hh0,hh1,hn0,hn1]
theorem mh_SockS {K:Nat} (hK:maxLen + 2≤K):MH (Z8h K) (Za4 K) (1048576 * (2097158)) (fun l:List Z8=>l.length≤1048576∧∀ e∈l,(fun e:Z8=>e.2.2.2.2.1.length≤1048576∧e.2.2.2.2.2.1.length≤1048576) e) :=
 mh_list hK (Lm:=fun f k i o=>Z3w K f k i o) (Lh:=fun f x k i=>Z41 K f x k i) (fun x k=>Z8h.eq K x k) (fun x k=>Za4.eq K x k)
  (fun f k o=>by rw [Z3w.step,br_false (by simp)]) (fun f x k=>by rw [Z41.step,br_false (by simp)])
  (fun k e h1 h2 h3=>one_SockS hK k e h1 h2 h3)
theorem one_HouseS {K:Nat} (hK:maxLen + 2≤K) (k:Int) (e:Z3) (h1:1≤k) (h2:k + (20971529:Nat)≤4611686018427387904) (he0:e.2.2.2.1.length≤1048576∧e.2.2.2.2.2.1.length≤1048576∧e.2.2.2.2.2.2.1.length≤1048576):∃ (k':Int) (e':Z3),k≤k'∧k'≤k + (20971529:Nat) ∧
  (∀ f (i:Nat) (o:List Z3),o.length≤1048576→o[i]? = some e→Z3f K (f + 1) k (i:Int) o = Z3f K f k' ((i:Int) + 1) (o.set i e')) ∧
  (∀ f (i:Nat) (x:List Z3),x.length≤1048576→x[i]? = some e'→Z3i K (f + 1) x k (i:Int) = Z3i K f x k' ((i:Int) + 1)):=by
 obtain ⟨k0,b0,hm0,hh0,hl0,hu0⟩:=mh_DbS hK (e.2.2.2.1) (k + 1 + 1 + 1) ⟨he0.1,fun _ _=>trivial⟩ (by omega) (by omega)
 have hn0:decide (k0 < 0) = false:=decide_eq_false (by omega)
 obtain ⟨k1,b1,hm1,hh1,hl1,hu1⟩:=mh_AskerS hK (e.2.2.2.2.2.1) (k0 + 1) ⟨he0.2.1,fun _ _=>trivial⟩ (by omega) (by omega)
 have hn1:decide (k1 < 0) = false:=decide_eq_false (by omega)
 obtain ⟨k2,b2,hm2,hh2,hl2,hu2⟩:=mh_LineS hK (e.2.2.2.2.2.2.1) (k1) ⟨he0.2.2,fun _ _=>trivial⟩ (by omega) (by omega)
 have hn2:decide (k2 < 0) = false:=decide_eq_false (by omega)
 refine ⟨k2 + 1 + 1 + 1 + 1 + 1,(k,k + 1,k + 1 + 1,b0,(((Int.tmod (k0) 3):Int) == 0),b1,b2,k2,(k2 + 1,k2 + 1 + 1,k2 + 1 + 1 + 1,k2 + 1 + 1 + 1 + 1,()),()),by omega,by omega,fun f i o hl he=>?_,fun f i x hl he=>?_⟩
 ·obtain ⟨hi,rfl⟩:=List.getElem?_eq_some_iff.1 he
  have hc:(decide (0≤(i:Int)) && decide ((i:Int) < (o.length:Int))) = true:=in_true (by omega) (by omega)
  have hg:∀ z,o.getD i z = o[i]:=fun z=>by rw [List.getD_eq_getElem?_getD,he]; rfl
  rw [Z3f.step,br_true (by simp; omega)]
  simp (disch:=omega) only [lt,Int.toNat_natCast,List.length_set,hc,br_t',br_f',d30n,d30i,wrap_id,getD_setM,set_setM,hg,Option.bind_some,hm0,hm1,hm2]
 ·obtain ⟨hi,hx⟩:=List.getElem?_eq_some_iff.1 he
  have hc:(decide (0≤(i:Int)) && decide ((i:Int) < (x.length:Int))) = true:=in_true (by omega) (by omega)
  have hg:∀ z,x.getD i z = (k,k + 1,k + 1 + 1,b0,(((Int.tmod (k0) 3):Int) == 0),b1,b2,k2,(k2 + 1,k2 + 1 + 1,k2 + 1 + 1 + 1,k2 + 1 + 1 + 1 + 1,()),()):=fun z=>by rw [List.getD_eq_getElem?_getD,he]; rfl
  rw [Z3i.step,br_true (by simp; omega)]
  simp (disch:=omega) only [Int.toNat_natCast,hc,br_t',br_f',d30n,d30i,wrap_id,hg,ne_self',strEq_self',beq_self_eq_true,Bool.not_true,Option.bind_some,hh0,hh1,hh2,hn0,hn1,hn2]
theorem mh_HouseS {K:Nat} (hK:maxLen + 2≤K):MH (Z7j K) (Z92 K) (1048576 * (20971529)) (fun l:List Z3=>l.length≤1048576∧∀ e∈l,(fun e:Z3=>e.2.2.2.1.length≤1048576∧e.2.2.2.2.2.1.length≤1048576∧e.2.2.2.2.2.2.1.length≤1048576) e) :=
 mh_list hK (Lm:=fun f k i o=>Z3f K f k i o) (Lh:=fun f x k i=>Z3i K f x k i) (fun x k=>Z7j.eq K x k) (fun x k=>Z92.eq K x k)
  (fun f k o=>by rw [Z3f.step,br_false (by simp)]) (fun f x k=>by rw [Z3i.step,br_false (by simp)])
  (fun k e h1 h2 h3=>one_HouseS hK k e h1 h2 h3)
theorem one_PackS {K:Nat} (hK:maxLen + 2≤K) (k:Int) (e:Zs) (h1:1≤k) (h2:k + (1048577:Nat)≤4611686018427387904) (he0:e.2.1.length≤1048576):∃ (k':Int) (e':Zs),k≤k'∧k'≤k + (1048577:Nat) ∧
  (∀ f (i:Nat) (o:List Zs),o.length≤1048576→o[i]? = some e→Z3y K (f + 1) k (i:Int) o = Z3y K f k' ((i:Int) + 1) (o.set i e')) ∧
  (∀ f (i:Nat) (x:List Zs),x.length≤1048576→x[i]? = some e'→Z43 K (f + 1) x k (i:Int) = Z43 K f x k' ((i:Int) + 1)):=by
 obtain ⟨k0,b0,hm0,hh0,hl0,hu0⟩:=mh_ByteS hK (e.2.1) (k + 1) ⟨he0,fun _ _=>trivial⟩ (by omega) (by omega)
 have hn0:decide (k0 < 0) = false:=decide_eq_false (by omega)
 refine ⟨k0,(k,b0,()),by omega,by omega,fun f i o hl he=>?_,fun f i x hl he=>?_⟩
 ·obtain ⟨hi,rfl⟩:=List.getElem?_eq_some_iff.1 he
  have hc:(decide (0≤(i:Int)) && decide ((i:Int) < (o.length:Int))) = true:=in_true (by omega) (by omega)
  have hg:∀ z,o.getD i z = o[i]:=fun z=>by rw [List.getD_eq_getElem?_getD,he]; rfl
  rw [Z3y.step,br_true (by simp; omega)]
  simp (disch:=omega) only [lt,Int.toNat_natCast,List.length_set,hc,br_t',br_f',d30n,d30i,wrap_id,getD_setM,set_setM,hg,Option.bind_some,hm0]
 ·obtain ⟨hi,hx⟩:=List.getElem?_eq_some_iff.1 he
  have hc:(decide (0≤(i:Int)) && decide ((i:Int) < (x.length:Int))) = true:=in_true (by omega) (by omega)
  have hg:∀ z,x.getD i z = (k,b0,()):=fun z=>by rw [List.getD_eq_getElem?_getD,he]; rfl
  rw [Z43.step,br_true (by simp; omega)]
  simp (disch:=omega) only [Int.toNat_natCast,hc,br_t',br_f',d30n,d30i,wrap_id,hg,ne_self',strEq_self',beq_self_eq_true,Bool.not_true,Option.bind_some,hh0,hn0]
theorem mh_PackS {K:Nat} (hK:maxLen + 2≤K):MH (Z8i K) (Za6 K) (1048576 * (1048577)) (fun l:List Zs=>l.length≤1048576∧∀ e∈l,(fun e:Zs=>e.2.1.length≤1048576) e) :=
 mh_list hK (Lm:=fun f k i o=>Z3y K f k i o) (Lh:=fun f x k i=>Z43 K f x k i) (fun x k=>Z8i.eq K x k) (fun x k=>Za6.eq K x k)
  (fun f k o=>by rw [Z3y.step,br_false (by simp)]) (fun f x k=>by rw [Z43.step,br_false (by simp)])
  (fun k e h1 h2 h3=>one_PackS hK k e h1 h2 h3)
theorem one_NoteS {K:Nat} (hK:maxLen + 2≤K) (k:Int) (e:Zu) (h1:1≤k) (h2:k + (9:Nat)≤4611686018427387904) (he0:True):∃ (k':Int) (e':Zu),k≤k'∧k'≤k + (9:Nat) ∧
  (∀ f (i:Nat) (o:List Zu),o.length≤1048576→o[i]? = some e→Z3z K (f + 1) k (i:Int) o = Z3z K f k' ((i:Int) + 1) (o.set i e')) ∧
  (∀ f (i:Nat) (x:List Zu),x.length≤1048576→x[i]? = some e'→Z44 K (f + 1) x k (i:Int) = Z44 K f x k' ((i:Int) + 1)):=by
 skip
 refine ⟨k + 1 + 1 + 1 + 1 + 1 + 1 + 1 + 1 + 1,(k,k + 1,k + 1 + 1,k + 1 + 1 + 1,k + 1 + 1 + 1 + 1,k + 1 + 1 + 1 + 1 + 1,k + 1 + 1 + 1 + 1 + 1 + 1,k + 1 + 1 + 1 + 1 + 1 + 1 + 1,k + 1 + 1 + 1 + 1 + 1 + 1 + 1 + 1,()),by omega,by omega,fun f i o hl he=>?_,fun f i x hl he=>?_⟩
 ·obtain ⟨hi,rfl⟩:=List.getElem?_eq_some_iff.1 he
  have hc:(decide (0≤(i:Int)) && decide ((i:Int) < (o.length:Int))) = true:=in_true (by omega) (by omega)
  have hg:∀ z,o.getD i z = o[i]:=fun z=>by rw [List.getD_eq_getElem?_getD,he]; rfl
  rw [Z3z.step,br_true (by simp; omega)]
  simp (disch:=omega) only [lt,Int.toNat_natCast,List.length_set,hc,br_t',br_f',d30n,d30i,wrap_id,getD_setM,set_setM,hg,Option.bind_some]
 ·obtain ⟨hi,hx⟩:=List.getElem?_eq_some_iff.1 he
  have hc:(decide (0≤(i:Int)) && decide ((i:Int) < (x.length:Int))) = true:=in_true (by omega) (by omega)
  have hg:∀ z,x.getD i z = (k,k + 1,k + 1 + 1,k + 1 + 1 + 1,k + 1 + 1 + 1 + 1,k + 1 + 1 + 1 + 1 + 1,k + 1 + 1 + 1 + 1 + 1 + 1,k + 1 + 1 + 1 + 1 + 1 + 1 + 1,k + 1 + 1 + 1 + 1 + 1 + 1 + 1 + 1,()):=fun z=>by rw [List.getD_eq_getElem?_getD,he]; rfl
  rw [Z44.step,br_true (by simp; omega)]
  simp (disch:=omega) only [Int.toNat_natCast,hc,br_t',br_f',d30n,d30i,wrap_id,hg,ne_self',strEq_self',beq_self_eq_true,Bool.not_true,Option.bind_some]
theorem mh_NoteS {K:Nat} (hK:maxLen + 2≤K):MH (Z8j K) (Za7 K) (1048576 * (9)) (fun l:List Zu=>l.length≤1048576∧∀ e∈l,(fun e:Zu=>True) e) :=
 mh_list hK (Lm:=fun f k i o=>Z3z K f k i o) (Lh:=fun f x k i=>Z44 K f x k i) (fun x k=>Z8j.eq K x k) (fun x k=>Za7.eq K x k)
  (fun f k o=>by rw [Z3z.step,br_false (by simp)]) (fun f x k=>by rw [Z44.step,br_false (by simp)])
  (fun k e h1 h2 h3=>one_NoteS hK k e h1 h2 h3)
end F5
