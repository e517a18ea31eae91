/- What comes in, read as data, is of its kind, within the bounds that a row's reading gives. -/
import Derived.Test.YtofllafpneanoaaGreatDoorFilP
import Derived.SizedLaws
import Derived.Deep.Slices
import Derived.Deep.Fields
import Derived.ChangeSame
set_option linter.unusedSimpArgs false
namespace Go.Fil
open Go.RowKit Go.ChangeShapes Go.WideShapes Go.Deep
set_option linter.unusedVariables false
def OpensF (P:Program) (by_:Nat→Nat) (t:TypeId) (ty:Ty):Prop :=
 P.cellsOf t = ty.sz ∧
 ∀ (H:Type) (enc:TypeId × Value→H) (w:World) (base:Nat) (spare:Nat→Bool) (held:Bool) (fuel:Nat) (cs:List Value) (x:DataW H × List MemPlace),
  DataW.trod enc P w base spare held fuel t cs = some x→(∀ n∈x.1.weights P t,n≤reachBytes)→∃ a:ty.T,K w (fun k=>k < w.heap.size) ty a cs∧Bd by_ ty a
def OpensAtF (P:Program) (by_:Nat→Nat) (fs:List Field) (o:Nat) (ty:Ty):Prop :=
 ∀ (H:Type) (enc:TypeId × Value→H) (w:World) (base:Nat) (spare:Nat→Bool) (held:Bool) (fuel:Nat) (cs:List Value) (xs:List (DataW H × List MemPlace)),
  (∀ (i:Nat) (f:Field),fs[i]? = some f→∃ y,xs[i]? = some y∧DataW.trod enc P w base spare held fuel f.type ((cs.drop f.offset).take (P.cellsOf f.type)) = some y∧∀ n∈y.1.weights P f.type,n≤reachBytes) →
  (cs.drop o).length = ty.sz→∃ a:ty.T,K w (fun k=>k < w.heap.size) ty a (cs.drop o)∧Bd by_ ty a
def opX (P:Program) (by_:Nat→Nat):Ty→(Nat→Bool) × (List Field→Nat→Bool)
 | .int k=>(fun t=>(match P.underlying t with | some (.int k')=>decide (k' = k) | _=>false) && P.cellsOf t == 1,fun _ _=>false)
 | .bool=>(fun t=>(match P.underlying t with | some .bool=>true | _=>false) && P.cellsOf t == 1,fun _ _=>false)
 | .str=>(fun t=>(match P.underlying t with | some .string=>true | _=>false) && P.cellsOf t == 1,fun _ _=>false)
 | .slice e te=>(fun t=>(match P.underlying t with | some (.slice e')=>decide (e' = e) | _=>false) && P.cellsOf t == 1 && P.bytesOf e == by_ e && decide (0 < te.sz) && (opX P by_ te).1 e,fun _ _=>false)
 | .unit=>(fun _=>false,fun fs _=>fs.isEmpty)
 | .pair a b=>(fun t=>match P.underlying t with
   | some (.struct fs)=>P.cellsOf t == a.sz + b.sz && (match fs.toList with
    | f :: r=>f.offset == 0 && (opX P by_ a).1 f.type && (opX P by_ b).2 r (0 + a.sz)
    | []=>false)
   | _=>false,fun fs o=>match fs with
    | f :: r=>f.offset == o && (opX P by_ a).1 f.type && (opX P by_ b).2 r (o + a.sz)
    | []=>false)
theorem at_flatten {w:World} {sz:Nat}:∀ {css:List (List Value)} {ad:Addr},(∀ c∈css,c.length = sz)→(∀ i c,css[i]? = some c→At w (ad.add (i * sz)) c)→At w ad css.flatten
 | [],ad,_,_=>fun j u hu=>by simp at hu
 | c :: css,ad,hl,h=>by
  have h0:=h 0 c rfl
  rw [Nat.zero_mul,add_zero'] at h0
  have ih:=at_flatten (css:=css) (ad:=ad.add sz) (fun d hd=>hl d (by simp [hd])) (fun i d hd=>by
   have:=h (i + 1) d (by simpa using hd)
   rw [add_add]
   rwa [Nat.succ_mul,Nat.add_comm] at this)
  have hc:=hl c (by simp)
  intro j u hu
  rw [List.flatten_cons] at hu
  by_cases hj:j < c.length
  ·exact h0 j u (by rwa [List.getElem?_append_left hj] at hu)
  ·rw [List.getElem?_append_right (by omega)] at hu
   have:=ih _ u hu
   rwa [add_add,show sz + (j - c.length) = j by omega] at this
theorem opF_each {P:Program} {H:Type}:∀ (ts:List TypeId) (ds:List (DataW H)) (i:Nat) (t:TypeId) (d:DataW H),ts[i]? = some t→ds[i]? = some d→∀ n∈d.weights P t,n∈DataW.weightsEach P ts ds :=
 fun ts ds i t d ht hd n hn=>DataW.weights_mem_each ht hd n hn
theorem opF_all {P:Program} {H:Type} {e:TypeId}:∀ (ds:List (DataW H)) (d:DataW H),d∈ds→∀ n∈d.weights P e,n∈DataW.weightsAll P e ds
 | [],_,h,_,_=>by cases h
 | d0 :: r,d,h,n,hn=>by
  simp only [DataW.weightsAll,List.mem_append]
  rcases List.mem_cons.1 h with rfl | h
  ·exact Or.inl hn
  ·exact Or.inr (opF_all r d h n hn)
theorem opAt_cons {P:Program} {by_:Nat→Nat} {f:Field} {r:List Field} {o:Nat} {a b:Ty} (ho:f.offset = o) (h:OpensF P by_ f.type a) (h':OpensAtF P by_ r (o + a.sz) b):OpensAtF P by_ (f :: r) o (.pair a b):=by
 intro H enc w base spare held fuel cs xs hx hl
 obtain ⟨y,_,ht,hw⟩:=hx 0 f rfl
 rw [ho,h.1] at ht
 obtain ⟨u,hu,hb⟩:=h.2 H enc w base spare held fuel _ y ht hw
 have hl2:(cs.drop o).length = a.sz + b.sz:=hl
 obtain ⟨u',hu',hb'⟩:=h' H enc w base spare held fuel cs xs.tail (fun i g hg=>by
  obtain ⟨y,hy,r⟩:=hx (i + 1) g hg
  exact ⟨y,by rw [List.getElem?_tail]; exact hy,r⟩) (by rw [← List.drop_drop,List.length_drop,hl2]; omega)
 exact ⟨(u,u'),⟨(cs.drop o).take a.sz,cs.drop (o + a.sz),by rw [← List.drop_drop]; exact (List.take_append_drop _ _).symm,hu,hu'⟩,hb,hb'⟩
theorem opStruct {P:Program} {by_:Nat→Nat} {t:TypeId} {fs:Array Field} {ty:Ty} (hu:P.underlying t = some (.struct fs)) (hc:P.cellsOf t = ty.sz) (h:OpensAtF P by_ fs.toList 0 ty):OpensF P by_ t ty:=by
 refine ⟨hc,fun H enc w base spare held fuel cs x hx hw=>?_⟩
 obtain ⟨xs,n,rfl,rfl,hl,hn,hf⟩:=DataW.trod_struct hu hx
 have:=h H enc w base spare held n cs xs (fun i f hi=>?_) (by rw [List.drop_zero,hl,hc])
 ·simpa using this
 have hi':fs[i]? = some f:=by simpa using hi
 have hlt:i < fs.size:=(Array.getElem?_eq_some_iff.1 hi').1
 have hy:xs[i]? = some (xs[i]'(by omega)):=List.getElem?_eq_getElem (by omega)
 refine ⟨_,hy,(hf i f hi').trans hy,fun m hm=>hw m ?_⟩
 simp only [DataW.weights,hu]
 exact opF_each _ _ i f.type _ (by simp [hi']) (by rw [List.getElem?_map,hy]; rfl) m hm
theorem opSlice {P:Program} {by_:Nat→Nat} {t e:TypeId} {te:Ty} (hu:P.underlying t = some (.slice e)) (hct:P.cellsOf t = 1) (hb:P.bytesOf e = by_ e) (hz:0 < te.sz) (h:OpensF P by_ e te):OpensF P by_ t (.slice e te):=by
 refine ⟨hct,fun H enc w base spare held fuel cs x hx hw=>?_⟩
 rcases open_slice hu hx with ⟨rfl,rfl⟩ | ⟨a,len,cap,m,n,D,Pl,rfl,_,hlc,hcm,hm,rfl,hi⟩
 ·exact ⟨[],⟨none,0,[],rfl,Nat.le_refl _,Nat.zero_le _,trivial,fun hn=>absurd hn (Nat.lt_irrefl _)⟩,by simp,by simp,fun x hx=>by cases hx⟩
 ·have hlm:len≤m:=by rw [hm]; split <;> omega
  have hw1:len * by_ e≤reachBytes:=by
   have:=hw (((List.range len).map D).length * P.bytesOf e + ((List.range (m - len)).map fun j=>D (len + j)).length * P.bytesOf e) (by simp [DataW.weights,hu,Nat.add_mul])
   simp only [List.length_map,List.length_range,hb] at this
   omega
  have hall:∀ i,i < len→∃ cs':List Value,∃ v:te.T,w.cells? base (a.add (i * P.cellsOf e)) (P.cellsOf e) = some cs'∧K w (fun k=>k < w.heap.size) te v cs'∧Bd by_ te v:=by
   intro i hil
   obtain ⟨cs',hc',ht'⟩:=hi i (by omega)
   obtain ⟨v,hv,hB⟩:=h.2 H enc w base spare held n cs' _ ht' (fun k hk=>hw k (by
    simp only [DataW.weights,hu,List.mem_cons,List.mem_append]
    exact .inr (.inl (opF_all _ (D i) (by simp; exact ⟨i,hil,rfl⟩) k hk))))
   exact ⟨cs',v,hc',hv,hB⟩
  clear hi hx
  have key:∀ q,q≤len→∃ (xs:List te.T) (css:List (List Value)),xs.length = q∧All2 (fun x r=>K w (fun k=>k < w.heap.size) te x r) xs css∧(∀ i c,css[i]? = some c→At w (a.add (i * te.sz)) c)∧∀ x∈xs,Bd by_ te x:=by
   intro q
   induction q with
   | zero=>intro _; exact ⟨[],[],rfl,trivial,fun i c h=>by simp at h,fun x hx=>by cases hx⟩
   | succ q ih =>
    intro hq
    obtain ⟨xs,css,h1,h2,h3,h4⟩:=ih (by omega)
    obtain ⟨cs',v,h5,h6,h7⟩:=hall q (by omega)
    have hl:=h2.length
    obtain ⟨_,hcl,hat⟩:=World.cells?_some h5
    rw [h.1] at hcl hat h5
    refine ⟨xs ++ [v],css ++ [cs'],by simp [h1],All2.append h2 ⟨h6,trivial⟩,fun i c hc=>?_,fun x hx=>?_⟩
    ·by_cases hlt:i < css.length
     ·exact h3 i c (by rwa [List.getElem?_append_left hlt] at hc)
     ·rw [List.getElem?_append_right (by omega)] at hc
      have hi0:i - css.length = 0:=by
       by_cases e0:i - css.length = 0
       ·exact e0
       ·rw [List.getElem?_eq_none (by simp; omega)] at hc; cases hc
      have hiq:i = q:=by omega
      subst hiq
      rw [hi0] at hc
      simp at hc
      subst hc
      intro j u hj
      have hil:j < te.sz:=by have:=(List.getElem?_eq_some_iff.1 hj).1; omega
      rw [← hj]
      exact hat j hil
    ·rcases List.mem_append.1 hx with hx | hx
     ·exact h4 x hx
     ·have:x = v:=by simpa using hx
      subst this; exact h7
  obtain ⟨xs,css,h1,h2,h3,h4⟩:=key len (Nat.le_refl _)
  have hfl:=flat_len h2
  have hat:=at_flatten hfl h3
  refine ⟨xs,⟨some a,cap,css,by rw [h1],by omega,by rw [h1]; simp only [maxLen] at hcm ⊢; omega,h2,fun hp=>⟨a,rfl,?_,?_,hat⟩⟩,by rw [h1]; exact hw1,by rw [h1]; simp only [maxLen] at hcm ⊢; omega,h4⟩
  all_goals
   have hl:=h2.length
   have hlen:0 < css.flatten.length:=by
    rw [flat_length hfl,← hl]
    exact Nat.mul_pos hp hz
   have:=hat 0 _ (List.getElem?_eq_getElem hlen)
   rw [add_zero'] at this
   exact World.block_lt_of_cell? w _ this
theorem opX_ok {P:Program} {by_:Nat→Nat}:∀ ty:Ty,(∀ t,(opX P by_ ty).1 t = true→OpensF P by_ t ty)∧(∀ fs o,(opX P by_ ty).2 fs o = true→OpensAtF P by_ fs o ty):=by
 intro ty
 induction ty with
 | int k =>
  refine ⟨fun t h=>?_,fun fs o h=>by simp [opX] at h⟩
  simp only [opX,Bool.and_eq_true,beq_iff_eq] at h
  obtain ⟨h,hc⟩:=h
  split at h
  ·rename_i k' hu
   have:=of_decide_eq_true h
   subst this
   refine ⟨hc,fun H enc w base spare held fuel cs x hx hw=>?_⟩
   obtain ⟨n,rfl,_,hn⟩:=DataW.trod_int hu hx
   exact ⟨n,rfl,hn⟩
  ·cases h
 | bool =>
  refine ⟨fun t h=>?_,fun fs o h=>by simp [opX] at h⟩
  simp only [opX,Bool.and_eq_true,beq_iff_eq] at h
  obtain ⟨h,hc⟩:=h
  split at h
  ·rename_i hu
   refine ⟨hc,fun H enc w base spare held fuel cs x hx hw=>?_⟩
   obtain ⟨b,rfl,_⟩:=DataW.trod_bool hu hx
   exact ⟨b,rfl,trivial⟩
  ·cases h
 | str =>
  refine ⟨fun t h=>?_,fun fs o h=>by simp [opX] at h⟩
  simp only [opX,Bool.and_eq_true,beq_iff_eq] at h
  obtain ⟨h,hc⟩:=h
  split at h
  ·rename_i hu
   refine ⟨hc,fun H enc w base spare held fuel cs x hx hw=>?_⟩
   obtain ⟨s,rfl,rfl,_⟩:=DataW.trod_string hu hx
   have:=hw s.data.toList.length (by simp [DataW.weights])
   rw [Array.length_toList] at this
   exact ⟨s,rfl,this⟩
  ·cases h
 | slice e te ih =>
  refine ⟨fun t h=>?_,fun fs o h=>by simp [opX] at h⟩
  simp only [opX,Bool.and_eq_true,beq_iff_eq,decide_eq_true_eq] at h
  obtain ⟨⟨⟨⟨h,hc⟩,hb⟩,hz⟩,hi⟩:=h
  split at h
  ·rename_i e' hu
   have:=of_decide_eq_true h
   subst this
   exact opSlice hu hc hb hz (ih.1 _ hi)
  ·cases h
 | unit =>
  refine ⟨fun t h=>by simp [opX] at h,fun fs o h=>?_⟩
  simp only [opX,List.isEmpty_iff] at h
  subst h
  intro H enc w base spare held fuel cs xs hx hl
  exact ⟨(),List.eq_nil_of_length_eq_zero hl,trivial⟩
 | pair a b iha ihb =>
  refine ⟨fun t h=>?_,fun fs o h=>?_⟩
  ·simp only [opX] at h
   split at h
   ·rename_i fs hu
    simp only [Bool.and_eq_true,beq_iff_eq] at h
    obtain ⟨hc,h⟩:=h
    split at h
    ·rename_i f r hf
     simp only [Bool.and_eq_true,beq_iff_eq] at h
     refine opStruct hu hc ?_
     rw [hf]
     exact opAt_cons h.1.1 (iha.1 _ h.1.2) (ihb.2 _ _ h.2)
    ·cases h
   ·cases h
  ·simp only [opX] at h
   split at h
   ·rename_i f r
    simp only [Bool.and_eq_true,beq_iff_eq] at h
    exact opAt_cons h.1.1 (iha.1 _ h.1.2) (ihb.2 _ _ h.2)
   ·cases h
end Go.Fil
