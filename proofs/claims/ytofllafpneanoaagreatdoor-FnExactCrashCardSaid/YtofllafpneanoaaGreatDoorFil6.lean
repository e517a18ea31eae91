/- Struct literals; all operations that make a value. -/
import Derived.Test.YtofllafpneanoaaGreatDoorFil5
set_option linter.unusedSectionVars false
namespace Go.Fil
open Go.RowKit
set_option linter.unusedVariables false
set_option linter.unusedSimpArgs false
theorem run_mapM_list {P:Program} {w:World} {α β:Type} (f:α→Sem β) (g:α→β):∀ l:List α,(∀ x∈l,(f x).run P w = .ok (g x) w)→(l.mapM f).run P w = .ok (l.map g) w
 | [],_=>by simp
 | x :: l,h=>by
  rw [List.mapM_cons]
  simp [h x (by simp),run_mapM_list f g l (fun y hy=>h y (by simp [hy]))]
theorem run_mapM_arr {P:Program} {w:World} {α β:Type} (f:α→Sem β) (g:α→β) (l:Array α) (h:∀ x∈l,(f x).run P w = .ok (g x) w):(l.mapM f).run P w = .ok (l.map g) w:=by
 obtain ⟨l⟩:=l
 rw [List.mapM_toArray]
 have:=run_mapM_list (P:=P) (w:=w) f g l (fun x hx=>h x (by simpa using hx))
 have h2:List.toArray <$> l.mapM f = (do let x ← l.mapM f; pure x.toArray):=rfl
 rw [h2,Sem.run_bind,this]
 simp
theorem fold_set (off:Nat):∀ (vs:List Value) (k:Nat) (cells:Array Value),off + k + vs.length≤cells.size →
  ((vs.zipIdx k).foldl (fun (cs:Array Value) p=>cs.setIfInBounds (off + p.2) p.1) cells).toList = cells.toList.take (off + k) ++ vs ++ cells.toList.drop (off + k + vs.length)
 | [],k,cells,_=>by simp
 | v :: vs,k,cells,h=>by
  simp only [List.zipIdx_cons,List.foldl_cons,List.length_cons] at h ⊢
  rw [fold_set off vs (k + 1) (cells.setIfInBounds (off + k) v) (by simp; omega)]
  have:=list_seg_step cells.toList (off + k) v vs (by simp; omega)
  simp only [Array.toList_setIfInBounds]
  rw [show off + (k + 1) = off + k + 1 by omega]
  exact this
section
variable [Lin] {P:Program} {E:Env} {o:Oper} {a:Act} {w:World} {next:Act→World→Prop} {Q:Exit→Act→World→Prop} {B:Nat} {okA:Nat→Prop} {w0:World} {β:Nat→Value} {st:St} {ρ:Type} {K':A→Option ρ} {r:ρ}
theorem fill_parts {ob:List (Option Ob)} (i:TI) (place:Nat→Option (Nat × Nat)) (hp:∀ (f off:Nat) (ft:Ty),i.flds[f]? = some (off,ft)→place f = some (off,ft.sz)) :
  ∀ (ps:List (Nat × A)) (vs:List (Nat × Value)) (cells:Array Value) (x:i.ty.T) (fr:Bool) (y:i.ty.T) (fr':Bool),fieldsPut i x fr ps = some (y,fr') →
   All2 (fun p u=>p.1 = u.1∧RepA w (okD w B okA β ob) β ob p.2 u.2) ps vs→K w (okD w B okA β ob fr) i.ty x cells.toList →
   ∃ cells',Instr.fill place cells vs = some cells'∧K w (okD w B okA β ob fr') i.ty y cells'.toList
 | [],[],cells,x,fr,y,fr',h,_,hK=>by
  simp only [fieldsPut,Option.some.injEq,Prod.mk.injEq] at h
  obtain ⟨rfl,rfl⟩:=h
  exact ⟨cells,rfl,hK⟩
 | (f,A) :: ps,(f',v) :: vs,cells,x,fr,y,fr',h,hv,hK=>by
  obtain ⟨⟨h1,h2⟩,hv⟩:=hv
  simp only at h1
  subst h1
  have key:∃ (off:Nat) (ft:Ty) (z:ft.T) (x':i.ty.T) (fr2:Bool),i.flds[f]? = some (off,ft)∧put i.ty x off ft z = some x'∧fieldsPut i x' (fr && fr2) ps = some (y,fr')∧K w (okD w B okA β ob fr2) ft z v.cells.toList:=by
   cases A with
   | d t fr2 z =>
    simp only [fieldsPut] at h
    split at h
    ·rename_i off ft hf
     split at h
     ·rename_i e
      subst e
      obtain ⟨x',hx,h⟩:=Option.bind_eq_some_iff.1 h
      exact ⟨off,_,z,x',fr2,hf,hx,h,V_cells h2⟩
     ·cases h
    ·cases h
   | nil =>
    simp only [fieldsPut] at h
    split at h
    ·rename_i off e t hf
     obtain ⟨x',hx,h⟩:=Option.bind_eq_some_iff.1 h
     refine ⟨off,.slice e t,[],x',true,hf,hx,by simpa using h,?_⟩
     have:v = .slice none 0 0:=h2
     subst this
     exact ⟨none,0,[],rfl,Nat.le_refl _,Nat.zero_le _,trivial,fun h=>by simp at h⟩
    ·cases h
   | _=>simp [fieldsPut] at h
  obtain ⟨off,ft,z,x',fr2,hf,hx,h,hz⟩:=key
  have hmono:∀ (b1 b2:Bool),(b2 = true→b1 = true)→∀ k,okD w B okA β ob b1 k→okD w B okA β ob b2 k:=fun b1 b2 hb k hk=>⟨hk.1,hk.2.1,fun h=>hk.2.2 (hb h)⟩
  have hK2:K w (okD w B okA β ob (fr && fr2)) i.ty x cells.toList:=K_mono (fun k hk _=>hmono _ _ (by simp; intro h1 h2; exact h1) k hk) hK
  have hz2:K w (okD w B okA β ob (fr && fr2)) ft z v.cells.toList:=K_mono (fun k hk _=>hmono _ _ (by simp) k hk) hz
  obtain ⟨h3,h4⟩:=put_K hz2 hx hK2
  have hl:=K_len hK
  have hl2:=K_len hz
  simp only [Array.length_toList] at hl hl2
  have hfold:=fold_set off v.cells.toList 0 cells (by simp [hl2]; omega)
  rw [Nat.add_zero,Array.length_toList,hl2] at hfold
  have hcells:(v.cells.zipIdx.foldl (fun (cs:Array Value) (p:Value × Nat)=>cs.setIfInBounds (off + p.2) p.1) cells).toList = cells.toList.take off ++ v.cells.toList ++ cells.toList.drop (off + ft.sz):=by
   rw [← hfold,← Array.foldl_toList]; simp
  obtain ⟨cells',h5,h6⟩:=fill_parts i place hp ps vs _ x' (fr && fr2) y fr' h hv (by rw [hcells]; exact h4)
  refine ⟨cells',?_,h6⟩
  rw [Instr.fill,hp f off ft hf]
  simp only
  rw [if_neg (by simp [hl2]; omega)]
  exact h5
 | [],_ :: _,_,_,_,_,_,_,hv,_=>hv.elim
 | _ :: _,[],_,_,_,_,_,_,hv,_=>hv.elim
theorem build_gives (he:EnvOk P E) (hs:Sim B okA w0 β st a w) {t:Nat} {ps:Array (Nat × Operand)} (ho:o.op = .build t ps) (h:compK E o st.val st.ob K' = some r) :
  ∃ A,K' A = some r∧Gives P w (okD w B okA β st.ob) β st.ob (Instr.build t (ps.map fun (i,x)=>(i,a.eval x))) A:=by
 simp only [compK,ho] at h
 cases hT:E.T t with
 | none=>simp [hT] at h
 | some i =>
  have ht:=he.T _ _ hT
  simp only [hT] at h
  split at h
  ·rename_i ta tb hy
   split at h
   rotate_left
   ·rename_i q harr hps
    obtain ⟨d,g1,g2⟩:=ht.und
    simp only [DescOk,hy,harr] at g2
    obtain ⟨n,e,te⟩:=q
    obtain ⟨rfl,_,_,inf,g3,g4⟩:=g2
    have hz:=run_zero ht w
    have hsz:(sizeOf e).run P w = .ok te.sz w:=by simp [sizeOf,typeInfo,g3,g4]
    have hzc:(i.ty.val i.ty.zcells).cells.toList = i.ty.zcells:=val_cells (zcells_len _) (K_one (K_zero w (fun _=>True) i.ty))
    refine ⟨_,h,.agg (i.ty.val i.ty.zcells).cells,?_,i.ty.zcells,K_zero _ _ _,?_⟩
    ·have hps':ps = #[]:=by apply Array.ext'; simpa using hps
     subst hps'
     unfold Instr.build
     simp only [Sem.run_bind,hz,Result.andThen_ok,run_underlying g1,hsz]
     simp [Instr.fill]
    ·unfold Ty.val
     rw [hy]
     simp [Ty.agg,Value.cells]
   ·cases h
   rename_i harr
   split at h
   ·rename_i x fr hx
    obtain ⟨d,g1,g2⟩:=ht.und
    simp only [DescOk,hy,harr] at g2
    obtain ⟨fs,rfl,g3,g4⟩:=g2
    have hz:=run_zero ht w
    have hzc:(i.ty.val i.ty.zcells).cells.toList = i.ty.zcells:=val_cells (zcells_len _) (K_one (K_zero w (fun _=>True) i.ty))
    have hplaces:(fs.mapM fun f=>(do pure (f.offset,← sizeOf f.type):Sem (Nat × Nat))).run P w = .ok (fs.map fun f=>(f.offset,((P.info? f.type).map (·.size)).getD 0)) w:=by
     refine run_mapM_arr _ _ fs (fun x hx=>?_)
     obtain ⟨j,hj,rfl⟩:=Array.mem_iff_getElem.1 hx
     have hj':j < i.flds.length:=by omega
     obtain ⟨fld,h1,h2,⟨inf,h3,h4⟩,_⟩:=g4 j i.flds[j].1 i.flds[j].2 (by rw [List.getElem?_eq_getElem hj'])
     rw [Array.getElem?_eq_getElem hj] at h1
     injection h1 with h1
     rw [h1]
     simp [sizeOf,typeInfo,h3]
    obtain ⟨cells',h5,h6⟩:=fill_parts (w:=w) (B:=B) (okA:=okA) (β:=β) (ob:=st.ob) i (fun f=>(fs.map fun f=>(f.offset,((P.info? f.type).map (·.size)).getD 0))[f]?) (by
      intro f off ft hf
      obtain ⟨fld,h1,rfl,⟨inf,h3,h4⟩,_⟩:=g4 f off ft hf
      simp [h1,h3,h4]) (ps.toList.map fun p=>(p.1,st.val p.2)) (ps.toList.map fun p=>(p.1,a.eval p.2)) (i.ty.val i.ty.zcells).cells i.ty.zero true x fr hx
     (by
      generalize ps.toList = l
      induction l with
      | nil=>trivial
      | cons p l ih=>exact ⟨⟨rfl,hs.val p.2⟩,ih⟩) (by rw [hzc]; exact K_zero _ _ _)
    refine ⟨_,h,.agg cells',?_,cells'.toList,h6,by unfold Ty.val; rw [hy]; simp [Ty.agg]⟩
    unfold Instr.build
    simp only [Sem.run_bind,hz,Result.andThen_ok,run_underlying g1,hplaces,List.map_map,Array.toList_map]
    simp only [h5]
    rfl
   ·cases h
  ·cases h
theorem comp_sound (he:EnvOk P E) (hs:Sim B okA w0 β st a w) (h:compK E o st.val st.ob K' = some r)
  (hn:∀ A v w1,Grow w w1→RepA w1 (okD w1 B okA β st.ob) β st.ob A v→K' A = some r→next (a.put o.dst v) w1):o.wp P a w next Q:=by
 cases ho:o.op with
 | move x =>
  simp only [compK,ho] at h
  exact wp_value (v:=a.eval x) (by simp [execOp,ho]) (hn _ _ w (Grow.refl w) (hs.val x) h)
 | assign x =>
  simp only [compK,ho] at h
  exact wp_value (v:=a.eval x) (by simp [execOp,ho]) (hn _ _ w (Grow.refl w) (hs.val x) h)
 | pick c x y =>
  obtain ⟨A,h1,v,h2,h3⟩:=pick_gives (P:=P) hs ho h
  refine wp_value (v:=v) ?_ (hn A v w (Grow.refl w) h3 h1)
  have h4:(do let b ← asBool (a.eval c); pure (Next.value (if b then a.eval x else a.eval y)):Sem Next).run P w = .ok (.value v) w:=by
   revert h2
   simp only [Sem.run_bind]
   cases (asBool (a.eval c)).run P w with
   | ok b w'=>simp [Result.andThen]
   | halt b w'=>simp [Result.andThen]
  simp only [execOp,ho]
  exact h4
 | load t x=>exact wp_gives (by simp only [execOp,ho]) (load_gives he hs ho h) (fun A v h1 h2=>hn A v w (Grow.refl w) h1 h2)
 | nilCheck x=>exact nil_gives hs ho h hn
 | binOp op xt x y yt =>
  have h':=h
  simp only [compK,ho] at h'
  exact wp_gives (s:=do eqGuard op xt x y (a.eval x) (a.eval y); binOp op xt (a.eval x) (a.eval y)) (by simp only [execOp,ho]) (bin_gives he h' (hs.val x) (hs.val y)) (fun A v h1 h2=>hn A v w (Grow.refl w) h1 h2)
 | unOp op xt x=>exact wp_gives (by simp only [execOp,ho]) (un_gives hs ho h) (fun A v h1 h2=>hn A v w (Grow.refl w) h1 h2)
 | convert s t x=>exact wp_gives (by simp only [execOp,ho]) (conv_gives he hs ho h) (fun A v h1 h2=>hn A v w (Grow.refl w) h1 h2)
 | slice t x lo hi mx=>exact wp_gives (by simp only [execOp,ho]) (slice_gives he hs ho h) (fun A v h1 h2=>hn A v w (Grow.refl w) h1 h2)
 | fieldAddr s x f=>exact wp_gives (by simp only [execOp,ho]) (fieldAddr_gives he hs ho h) (fun A v h1 h2=>hn A v w (Grow.refl w) h1 h2)
 | field s x f=>exact wp_gives (by simp only [execOp,ho]) (field_gives he hs ho h) (fun A v h1 h2=>hn A v w (Grow.refl w) h1 h2)
 | indexAddr t x ix=>exact wp_gives (by simp only [execOp,ho]) (indexAddr_gives he hs ho h) (fun A v h1 h2=>hn A v w (Grow.refl w) h1 h2)
 | index t x ix=>exact wp_gives (by simp only [execOp,ho]) (index_gives he hs ho h) (fun A v h1 h2=>hn A v w (Grow.refl w) h1 h2)
 | extract x n=>exact wp_gives (by simp only [execOp,ho]) (extract_gives hs ho h) (fun A v h1 h2=>hn A v w (Grow.refl w) h1 h2)
 | build t ps=>exact wp_gives (by simp only [execOp,ho]) (build_gives he hs ho h) (fun A v h1 h2=>hn A v w (Grow.refl w) h1 h2)
 | call c =>
  simp only [compK,ho] at h
  split at h
  ·rename_i hc
   split at h
   ·rename_i x t ha hat
    exact wp_gives (call_len ho hc ha hat) (len_gives he hs h) (fun A v h1 h2=>hn A v w (Grow.refl w) h1 h2)
   ·cases h
  ·rename_i hc
   split at h
   ·rename_i x y ha
    exact wp_gives (call_min ho hc ha) (min_gives hs h) (fun A v h1 h2=>hn A v w (Grow.refl w) h1 h2)
   ·cases h
  ·rename_i hc
   split at h
   ·rename_i x y ha
    exact wp_gives (call_max ho hc ha) (max_gives hs h) (fun A v h1 h2=>hn A v w (Grow.refl w) h1 h2)
   ·cases h
  ·rename_i f hc
   exact call_sound he hs ho hc h hn
  ·cases h
 | _=>simp [compK,ho] at h
end
end Go.Fil
