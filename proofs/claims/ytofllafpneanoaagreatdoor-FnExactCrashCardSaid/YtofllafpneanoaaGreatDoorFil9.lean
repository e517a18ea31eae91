/- append, slice literals; one operation, whatever it does. -/
import Derived.Test.YtofllafpneanoaaGreatDoorFil8
import Derived.Lib.AppendStr
set_option linter.unusedSectionVars false
namespace Go.Fil
open Go.RowKit
set_option linter.unusedVariables false
set_option linter.unusedSimpArgs false
section
variable [Lin] {P:Program} {E:Env} {o:Oper} {a:Act} {w:World} {next:Act→World→Prop} {Q:Exit→Act→World→Prop} {B:Nat} {okA:Nat→Prop} {w0:World} {β:Nat→Value} {st:St} {ρ:Type} {r:ρ} {K1:St→Option ρ}
theorem okD_weak {fr fr':Bool} (hf:fr' = true→fr = true) {ob:List (Option Ob)} {k:Nat} (hk:okD w B okA β ob fr k):okD w B okA β ob fr' k:=⟨hk.1,hk.2.1,fun h=>hk.2.2 (hf h)⟩
theorem K_weak {fr fr':Bool} (hf:fr' = true→fr = true) {ob:List (Option Ob)} {t:Ty} {x:t.T} {cs:List Value} (h:K w (okD w B okA β ob fr) t x cs):K w (okD w B okA β ob fr') t x cs:=K_mono (fun k hk _=>okD_weak hf hk) h
/-- The literal's parts, one behind the other. -/
theorem fill_slice {ob:List (Option Ob)} (e:Nat) (t:Ty) (n:Nat) :
  ∀ (ps:List (Nat × A)) (vs:List (Nat × Value)) (cells:Array Value) (css:List (List Value)) (xs:List t.T) (fr:Bool) (ys:List t.T) (fr':Bool),sliceParts e t xs fr ps = some (ys,fr') →
   All2 (fun p u=>p.1 = u.1∧RepA w (okD w B okA β ob) β ob p.2 u.2) ps vs→cells.toList = css.flatten→xs.length = n→All2 (fun x c=>K w (okD w B okA β ob fr) t x c) xs css →
   ∃ cells' css',Instr.fill (fun i=>some (i * t.sz,t.sz)) cells vs = some cells'∧cells'.toList = css'.flatten∧ys.length = n∧All2 (fun x c=>K w (okD w B okA β ob fr') t x c) ys css'
 | [],[],cells,css,xs,fr,ys,fr',h,_,hc,hn,hK=>by
  simp only [sliceParts,Option.some.injEq,Prod.mk.injEq] at h
  obtain ⟨rfl,rfl⟩:=h
  exact ⟨cells,css,rfl,hc,hn,hK⟩
 | (j,A) :: ps,(j',v) :: vs,cells,css,xs,fr,ys,fr',h,hv,hc,hn,hK=>by
  obtain ⟨⟨h1,h2⟩,hv⟩:=hv
  simp only at h1
  subst h1
  have key:∃ (y:t.T) (fr2:Bool),j < xs.length∧sliceParts e t (xs.set j y) (fr && fr2) ps = some (ys,fr')∧K w (okD w B okA β ob fr2) t y v.cells.toList:=by
   cases A with
   | d t' fr2 z =>
    simp only [sliceParts] at h
    split at h
    ·rename_i hj
     obtain ⟨y,hy,h9⟩:=Option.bind_eq_some_iff.1 h
     clear h
     obtain ⟨rfl,rfl⟩:=cast?_some hy
     exact ⟨_,fr2,hj,h9,V_cells h2⟩
    ·cases h
   | nil =>
    cases t with
    | slice e' t' =>
     simp only [sliceParts] at h
     split at h
     ·rename_i hj
      refine ⟨[],true,hj,by simpa using h,?_⟩
      have:v = .slice none 0 0:=h2
      subst this
      exact ⟨none,0,[],rfl,Nat.le_refl _,Nat.zero_le _,trivial,fun h=>by simp at h⟩
     ·cases h
    | _=>simp [sliceParts] at h
   | _=>simp [sliceParts] at h
  obtain ⟨y,fr2,hj,h,hy⟩:=key
  have hK2:=hK.imp (fun x c hx=>K_weak (fr':=fr && fr2) (by simp; intro h1 _; exact h1) hx)
  have hy2:K w (okD w B okA β ob (fr && fr2)) t y v.cells.toList:=K_weak (by simp) hy
  have hl:=hK.length
  have hfl:=flat_len hK
  have hyl:=K_len hy
  have hset:=hK2.set j hy2
  have hcl:cells.size = xs.length * t.sz:=by rw [← Array.length_toList,hc,flat_length hfl,hl]
  have hjb:j * t.sz + t.sz≤cells.size:=by
   have:(j + 1) * t.sz≤xs.length * t.sz:=Nat.mul_le_mul_right _ hj
   rw [Nat.succ_mul] at this; omega
  have hfold:=fold_set (j * t.sz) v.cells.toList 0 cells (by rw [hyl]; omega)
  rw [Nat.add_zero,hyl] at hfold
  have hcells:(v.cells.zipIdx.foldl (fun (cs:Array Value) (p:Value × Nat)=>cs.setIfInBounds (j * t.sz + p.2) p.1) cells).toList = (css.set j v.cells.toList).flatten:=by
   rw [flat_set j hfl (by omega) hyl,← hc,← hfold,← Array.foldl_toList]; simp
  obtain ⟨cells',css',h5,h6,h7,h8⟩:=fill_slice e t n ps vs _ _ _ _ ys fr' h hv hcells (by simpa using hn) hset
  refine ⟨cells',css',?_,h6,h7,h8⟩
  simp only [Array.length_toList] at hyl
  rw [Instr.fill]
  simp only
  rw [if_neg (by simp [hyl]; omega)]
  exact h5
 | [],_ :: _,_,_,_,_,_,_,_,hv,_,_,_=>hv.elim
 | _ :: _,[],_,_,_,_,_,_,_,hv,_,_,_=>hv.elim
theorem lit_sound (he:EnvOk P E) (hs:Sim B okA w0 β st a w) {t n:Nat} {ps:Array (Nat × Operand)} (ho:o.op = .buildSlice t n ps) (h:effK0 E o st K1 = some r)
  (hn:∀ β' st' a' w',Sim B okA w0 β' st' a' w'→K1 st' = some r→next a' w'):o.wp P a w next Q:=by
 simp only [effK0,ho] at h
 split at h
 ·rename_i i s hT hd
  split at h
  ·rename_i e te hty hfree
   split at h
   ·rename_i ie hTe
    split at h
    ·rename_i hc
     obtain ⟨hie,hsz,hnm⟩:=hc
     split at h
     ·rename_i xs fr hx
      have hte:=he.T _ _ hTe
      have hz:=run_zero hte w
      rw [hie] at hz
      have hzc:(te.val te.zcells).cells.toList = te.zcells:=val_cells (zcells_len _) (K_one (K_zero w (fun _=>True) te))
      have hzs:(te.val te.zcells).cells.size = te.sz:=by rw [← Array.length_toList,hzc,zcells_len]
      have hcells:∃ z:Array Value,z = (if n * te.sz = 0 then #[] else (te.val te.zcells).cells)∧((Array.range (n * te.sz)).map (z[· % z.size]!)).toList = (List.replicate n te.zcells).flatten:=by
       by_cases h0:n * te.sz = 0
       ·refine ⟨#[],by simp [h0],?_⟩
        have:(List.replicate n te.zcells).flatten = []:=by
         apply List.eq_nil_of_length_eq_zero
         rw [flat_length (sz:=te.sz) (by intro c hc; rw [(List.mem_replicate.1 hc).2]; exact zcells_len te)]; simpa using h0
        rw [this,h0]; simp
       ·refine ⟨(te.val te.zcells).cells,by simp [h0],?_⟩
        have h1:0 < te.sz:=Nat.pos_of_ne_zero (by rintro h; simp [h] at h0)
        have:=made_flat hzs h1 n
        rw [hzc] at this
        exact this
      obtain ⟨z,hz1,hz2⟩:=hcells
      obtain ⟨cells',css',h5,h6,h7,h8⟩:=fill_slice (w:=w) (B:=B) (okA:=okA) (β:=β) (ob:=st.ob) e te n (ps.toList.map fun p=>(p.1,st.val p.2)) (ps.toList.map fun p=>(p.1,a.eval p.2)) _ _ _ true xs fr hx
       (by
        generalize ps.toList = l
        induction l with
        | nil=>trivial
        | cons p l ih=>exact ⟨⟨rfl,hs.val p.2⟩,ih⟩) hz2 (by simp) (All2.replicate (K_zero _ _ _) n)
      obtain ⟨β',hβ⟩:=arr_new hs hfree (t:=te) (fr:=fr) (xs:=xs) (css:=css') (cs:=cells') e h6 (by simp [maxLen]; omega) h8
      rw [h7] at hβ
      have hrun:(execOp a.eval o).run P w = .ok (.value (.slice (some ⟨w.heap.size,0,none⟩) n n)) (w.alloc (.cells cells' e)):=by
       have hsz':¬ n * te.sz > 2 ^ 24:=by omega
       have h9:(Instr.buildSlice t n (ps.map fun (i,x)=>(i,a.eval x))).run P w = .ok (.slice (some ⟨w.heap.size,0,none⟩) n n) (w.alloc (.cells cells' e)):=by
        unfold Instr.buildSlice
        by_cases h0:n * te.sz = 0
        ·simp only [h0,if_true] at hz1
         subst hz1
         simp only [Sem.run_bind,run_underlying (desc_slice (he.T _ _ hT) hty),Result.andThen_ok,desc_elem (he.T _ _ hT) hty w,if_neg hsz',h0,if_true,Sem.run_pure,Array.toList_map] at h5 ⊢
         rw [if_neg (by decide)]
         simp only [Sem.run_bind,Sem.run_pure,Result.andThen_ok]
         simp only [h5]
         rfl
        ·simp only [h0,if_false] at hz1
         subst hz1
         simp only [Sem.run_bind,run_underlying (desc_slice (he.T _ _ hT) hty),Result.andThen_ok,desc_elem (he.T _ _ hT) hty w,if_neg hsz',h0,if_false,Sem.run_pure,Array.toList_map,hz] at h5 ⊢
         simp only [h5]
         rfl
       simp only [execOp,ho,Sem.run_bind,h9,Result.andThen_ok]
       rfl
      unfold Oper.wp
      rw [hrun]
      show next (a.put o.dst _) _
      rw [hd]
      exact hn _ _ _ _ hβ h
     ·cases h
    ·cases h
   ·cases h
  ·cases h
 ·cases h
theorem Sim.grown (hs:Sim B okA w0 β st a w) {s1 s:Nat} {e:Nat} {te:Ty} {fr:Bool} {ws:List te.T} (hob:St.obj st.ob s1 = some (.arr e te fr ws)) {w1:World} {v1:Value} {fr':Bool} {xs:List te.T} {css:List (List Value)}
  (hg:w.grownBy w1 (β s1).ownBlock) (hown:w1.ownsRow B e te.sz v1 xs.length css.flatten) (hat:v1.ownBlock = (β s1).ownBlock∨v1.ownBlock = some w.heap.size)
  (hK:∀ (G:Bool→Nat→Prop),Mv w w1 (okD w B okA β st.ob) G→All2 (fun x c=>K w1 (G fr') te x c) xs css) :
  Sim B okA w0 (upd β s1 v1) ⟨(st.kill s1).set s (.own s1),st.ob.set s1 (some (.arr e te fr' xs))⟩ (a.put (some s) v1) w1:=by
 have hlt:=lt_of_obj hob
 obtain ⟨css0,hr0,_⟩:=hs.ob _ _ hob
 have eb:=own_blk hr0
 have eb1:=own_blk hown
 rw [eb] at hg hat
 rw [eb1] at hat
 have hnr:∀ {k},owns v1 k→blk v1 = some k:=fun h=>owns_of h (by rcases hown.2 with ⟨rfl,_⟩ | ⟨g,cap,cur,rfl,_⟩ <;> (intros; simp))
 have hO':∀ s',St.obj (st.ob.set s1 (some (.arr e te fr' xs))) s' = if s1 = s' then some (.arr e te fr' xs) else St.obj st.ob s':=by
  intro s'; rw [obj_set]; simp [hlt]
 have how:∀ k,k < w.heap.size→Ow (upd β s1 v1) (st.ob.set s1 (some (.arr e te fr' xs))) k→Ow β st.ob k:=by
  rintro k hk ⟨s',o',h1,h2⟩
  rw [hO'] at h1
  by_cases e':s1 = s'
  ·subst e'
   simp only [upd,if_true] at h2
   have h2:=hnr h2
   rcases hat with hat | hat
   ·exact ⟨s1,_,hob,.inl (hat ▸ h2)⟩
   ·rw [hat] at h2
    have:w.heap.size = k:=by simpa using h2
    omega
  ·rw [if_neg e'] at h1
   exact ⟨s',o',h1,by simpa [upd,Ne.symm e'] using h2⟩
 have hmv:Mv w w1 (okD w B okA β st.ob) (okD w1 B okA (upd β s1 v1) (st.ob.set s1 (some (.arr e te fr' xs)))) :=
  okD_mv (fun k hk hlt'=>hg.block k hlt' (fun h=>hk ⟨s1,_,hob,.inl h.symm⟩)) hg.size how
 have hnew:RepO w1 B (okD w1 B okA (upd β s1 v1) (st.ob.set s1 (some (.arr e te fr' xs)))) v1 (.arr e te fr' xs):=⟨css,hown,hK _ hmv⟩
 have hone:∀ s' e' t' xs',St.obj (st.ob.set s1 (some (.arr e te fr' xs))) s' = some (.row e' t' xs')→s' = 0:=by
  intro s' e' t' xs' h
  rw [hO'] at h
  split at h
  ·injection h with h; cases h
  ·exact hs.one _ _ _ _ h
 refine { len:=by simp [Act.put,hs.len,St.kill],tm:=?_,ob:=?_,apart:=?_,below:=hs.below.grown hg hs.size (fun k hk=>((hs.ob _ _ hob).lt' rfl hk).1),mrk:=hs.mrk.keep (fun k hk=>hg.block k (hs.mlt hk) (fun h=>by have:=(hs.lt k hk).1; have:=((hs.ob _ _ hob).lt' rfl h.symm).1; omega)),lt:=hs.lt,one:=hone,ltN:=hs.ltN,ltT:=hs.ltT,size:=Nat.le_trans hs.size hg.size,arg:=hs.arg,pin:=(fun h0 bx1 sh1 t1 x1 h1=>(by rw [hO'] at h1; split at h1 <;> first | (injection h1 with h1; cases h1; done) | (rename_i e5; obtain ⟨L5,hL5⟩:=hs.pin h0 _ _ _ _ h1; exact ⟨L5,by simpa [upd,Ne.symm e5] using hL5⟩))),defers:=by simpa [Act.put] using hs.defers }
 ·intro i A' hA'
  simp only [Act.put] at hA' ⊢
  rw [getD_set]
  rw [List.getElem?_set] at hA'
  by_cases e1:s = i
  ·subst e1
   by_cases hd:s < (st.kill s1).length
   ·simp [hd] at hA'
    subst hA'
    have:s < a.tmps.size:=by rw [hs.len]; simpa [St.kill] using hd
    simp only [this,true_and,and_self,if_true]
    exact ⟨by simp [upd],e,te,fr',xs,by rw [hO']; simp⟩
   ·simp [hd] at hA'
  ·simp [e1] at hA'
   simp only [e1,false_and,if_false]
   simp only [St.kill,List.getElem?_map,Option.map_eq_some_iff] at hA'
   obtain ⟨A0,hA0,rfl⟩:=hA'
   by_cases hk:A0.ksite = some s1
   ·rw [if_pos hk]; trivial
   ·rw [if_neg hk]
    have hr1:=hs.tm i A0 hA0
    refine hr1.step hmv (fun s2 h2=>?_)
    have hne:s1≠s2:=by
     rintro rfl
     cases A0 with
     | pt s' p' o' t' =>
      simp only [Fil.A.site,Option.some.injEq] at h2
      subst h2
      obtain ⟨u,L,bx,sh,t1,x1,_,h3,_⟩:=hr1
      rw [hob] at h3; cases h3
     | _=>exact hk h2
    exact ⟨by simp [upd,Ne.symm hne],Same.of_eq (by rw [hO',if_neg hne]),fun bx sh t x ho' k hk'=>hg.block k ((hs.ob s2 _ ho').lt hk').2 (fun h=>hne (hs.apart s1 s2 _ _ k hob ho' (.inl h.symm) hk'))⟩
 ·intro s' o' ho'
  simp only [hO'] at ho'
  by_cases e1:s1 = s'
  ·subst e1
   simp at ho'
   subst ho'
   simpa [upd] using hnew
  ·rw [if_neg e1] at ho'
   have:=(hs.ob s' o' ho').step (fun k hk=>hg.block k (hs.nlt hk) (fun h=>by have:=(hs.ltN k hk).1; have:=((hs.ob _ _ hob).lt' rfl h.symm).1; omega)) hmv (fun k hk=>hg.block k ((hs.ob s' o' ho').lt hk).2 (fun h=>e1 (hs.apart s1 s' _ _ k hob ho' (.inl h.symm) hk)))
   simpa [upd,Ne.symm e1] using this
 ·intro s2 s3 o2 o3 k h1 h2 h3 h4
  simp only [hO'] at h1 h2
  have other:∀ s' o',s1≠s'→St.obj st.ob s' = some o'→owns v1 k→owns (β s') k→False:=by
   intro s' o' hne ho' hv1 hb
   have hv1:=hnr hv1
   rcases hat with hat | hat
   ·exact hne (hs.apart s1 s' _ _ k hob ho' (.inl (hat ▸ hv1)) hb)
   ·rw [hat] at hv1
    have:w.heap.size = k:=by simpa using hv1
    have:=((hs.ob s' o' ho').lt hb).2
    omega
  by_cases e1:s1 = s2 <;> by_cases e2:s1 = s3
  ·rw [← e1,← e2]
  ·subst e1
   rw [if_neg e2] at h2
   simp only [upd,if_true,if_neg (Ne.symm e2)] at h3 h4
   exact (other s3 o3 e2 h2 h3 h4).elim
  ·subst e2
   rw [if_neg e1] at h1
   simp only [upd,if_true,if_neg (Ne.symm e1)] at h3 h4
   exact (other s2 o2 e1 h1 h4 h3).elim
  ·rw [if_neg e1] at h1
   rw [if_neg e2] at h2
   simp only [upd,if_neg (Ne.symm e1),if_neg (Ne.symm e2)] at h3 h4
   exact hs.apart s2 s3 o2 o3 k h1 h2 h3 h4
theorem append_sound (he:EnvOk P E) (hs:Sim B okA w0 β st a w) {c:Call} {t t':Nat} {x y:Operand} (ho:o.op = .call c) (hc:c.callee = .builtin .append) (ha:c.args.toList = [x,y]) (hat:c.argTypes.toList = [t,t']) (h:appendK E o st t t' x y K1 = some r)
  (hn:∀ β' st' a' w',Sim B okA w0 β' st' a' w'→K1 st' = some r→next a' w'):o.wp P a w next Q:=by
 unfold appendK at h
 split at h
 ·rename_i i e' te' fr' ys s hT hdt hd
  split at h
  ·rename_i e te hty
   split at h
   ·rename_i ie zs hTe hcast
    split at h
    ·rename_i hcond
     obtain ⟨htt,hie,hpos⟩:=hcond
     subst htt
     split at h
     ·rename_i s1 hA
      split at h
      ·rename_i e1 t1 fr1 xs hob
       split at h
       ·rename_i ws hcast2
        obtain ⟨q1,q2⟩:=cast?_some hcast
        obtain ⟨q3,q4⟩:=cast?_some hcast2
        injection q1 with q5 q6
        injection q3 with q7 q8
        subst q5; subst q6; subst q7; subst q8
        have q2':zs = ys:=q2
        have q4':ws = xs:=q4
        subst q2'; subst q4'
        rcases br_some h with ⟨hb,h⟩ | ⟨_,h⟩
        ·have hb:(ws.length + zs.length) * ie.bytes≤140737488355328:=of_decide_eq_true hb
         have hx:=hs.val x
         rw [hA] at hx
         have hvx:a.eval x = β s1:=hx.1
         obtain ⟨hVy,_⟩:=dtOf_V hdt (hs.val y)
         have hVy:V w (okD w B okA β st.ob fr') (.slice e1 t1) zs (a.eval y):=hVy
         obtain ⟨A,c',css2,g1,g2,g3,g4,g5⟩:=slice_of_V hVy
         obtain ⟨css1,g6,g7⟩:=hs.ob _ _ hob
         have hte:=he.T _ _ hTe
         obtain ⟨inf,k1,k2,k3,k4⟩:=hte.info
         rw [hie] at k2 k4
         have hzc:(t1.val t1.zcells).cells.toList = t1.zcells:=val_cells (zcells_len _) (K_one (K_zero w (fun _=>True) t1))
         have hlen:ws.length + zs.length≤140737488355328:=Nat.le_trans (Nat.le_mul_of_pos_right _ hte.pos) hb
         have hu:=desc_slice (he.T _ _ hT) hty
         have hrun:∃ v1 w1,(Builtin.append_ #[t,t] o.type #[a.eval x,a.eval y]).run P w = .ok v1 w1∧w1.ownsRow B e1 t1.sz v1 (ws.length + zs.length) (css1.flatten ++ css2.flatten)∧w.grownBy w1 (β s1).ownBlock∧(v1.ownBlock = (β s1).ownBlock∨v1.ownBlock = some w.heap.size):=by
          rw [hvx,g1]
          cases A with
          | none =>
           have h0:zs = []:=by
            cases zs with
            | nil=>rfl
            | cons z r=>obtain ⟨ad,h6,_⟩:=g5 (by simp); cases h6
           subst h0
           have h1:css2 = []:=List.eq_nil_of_length_eq_zero (by rw [← g4.length]; rfl)
           subst h1
           refine ⟨β s1,w,?_,by simpa using g6,World.grownBy.refl w _,.inl rfl⟩
           rcases g6.2 with ⟨h2,h3⟩ | ⟨g,cap,cur,h2,_,_,hnc,_⟩
           ·rw [h2]; simp [Builtin.append_,run_underlying hu,sizeOf,typeInfo,k1,Builtin.lenOf,Builtin.firstCells]
           ·rw [h2]; simp [Builtin.append_,run_underlying hu,sizeOf,typeInfo,k1,Builtin.lenOf,Builtin.firstCells,hnc,storeCells]
          | some ad =>
           have hfl:=flat_len g4
           have hcells:∀ j u,css2.flatten[j]? = some u→w.cell? (ad.add j) = some u:=by
            by_cases hp:0 < zs.length
            ·obtain ⟨ad',h6,_,_,h7⟩:=g5 hp
             injection h6 with h6
             subst h6
             exact h7
            ·have h1:css2 = []:=List.eq_nil_of_length_eq_zero (by rw [← g4.length]; omega)
             subst h1
             intro j u hu; simp at hu
           obtain ⟨v1,w1,h1,h2,h3,_,h4⟩:=run_append_own_at (P:=P) w B t o.type e1 inf (t1.val t1.zcells) t1.sz ie.bytes hu k1 k4 k2 k3 (by rw [← Array.length_toList,hzc,zcells_len]) hpos (β s1) ws.length css1.flatten g6 ad zs.length c' css2.flatten
            (by rw [flat_length hfl,← g4.length]) hcells (by
             intro u hu
             obtain ⟨cl,hcl,hu⟩:=List.mem_flatten.1 hu
             obtain ⟨q,hq,rfl⟩:=List.mem_iff_getElem.1 hcl
             have hl:=g4.length
             exact K_one (g4.get (i:=q) (List.getElem?_eq_getElem (by omega)) (List.getElem?_eq_getElem hq)) u hu) (by simp only [maxLen]; omega) hb hs.size
           exact ⟨v1,w1,h1,h2,h3,h4⟩
         obtain ⟨v1,w1,h1,h2,h3,h4⟩:=hrun
         have hex:(execOp a.eval o).run P w = .ok (.value v1) w1:=by
          have r1:c.args = #[x,y]:=by rw [← ha]
          have r2:c.argTypes = #[t,t]:=by rw [← hat]
          simp only [execOp,ho,resolve,hc,r1,r2]
          simp [invoke,builtin,h1]
         unfold Oper.wp
         rw [hex]
         show next (a.put o.dst _) _
         rw [hd]
         rw [← List.flatten_append] at h2
         refine hn _ _ _ _ (hs.grown (s:=s) hob (xs:=ws ++ zs) (fr':=fr1 && fr') (css:=css1 ++ css2) h3 (by rw [List.length_append]; exact h2) h4 ?_) h
         intro G hG
         exact All2.append (g7.imp (fun x c hx=>K_step (fun k hk hlt=>hG _ k (okD_weak (by simp; intro q1 _; exact q1) hk) hlt) hx)) (g4.imp (fun x c hx=>K_step (fun k hk hlt=>hG _ k (okD_weak (by simp) hk) hlt) hx))
        ·cases h
       ·cases h
      ·cases h
     ·cases h
    ·cases h
   ·cases h
  ·cases h
 ·cases h
/-- append(b, s...), s a string: whose the new row is. -/
theorem append_str_block {base t u ty e:Nat} {i:TypeInfo} (ht:P.underlying t = some (.slice e)) (hu:P.underlying u = some .string) (hi:P.info? e = some i) (hz:i.zero = some (.int .u8 0)) (hsize:i.size = 1) (hby:i.bytes = 1)
  {v:Value} {n:Nat} {xs:List Value} (hown:w.ownsRow base e 1 v n xs) (s:ByteArray) (hb:n + s.size≤140737488355328) {v1:Value} {w1:World} (hr:(Builtin.append_ #[t,u] ty #[v,.string s]).run P w = .ok v1 w1) :
  v1.ownBlock = v.ownBlock∨v1.ownBlock = some w.heap.size:=by
 rcases hown.2 with ⟨rfl,rfl⟩ | ⟨g,cap,cur,rfl,hbg,hg,hnc,hcm,hcs,htake⟩
 ·by_cases hm:s.size = 0
  ·have hf:=Lib.run_firstCells_string (P:=P) w 1 s
   rw [hm] at hf
   have:(Builtin.append_ #[t,u] ty #[.slice none 0 0,.string s]).run P w = .ok (.slice none 0 0) w:=by
    simp [Builtin.append_,run_underlying ht,run_underlying hu,sizeOf,typeInfo,hi,hsize,Builtin.lenOf,hm,hf]
   rw [this] at hr
   injection hr with h1 h2
   exact .inl (by rw [← h1])
  ·have:=run_append_nil_string (P:=P) w t u ty e i (.int .u8 0) ht hu hi hz s (by omega) (by omega) (by rw [hby]; omega)
   rw [this] at hr
   injection hr with h1 h2
   exact .inr (by rw [← h1]; rfl)
 ·by_cases hroom:n + s.size≤cap
  ·have:=Lib.run_append_room_string (P:=P) w t u ty e i ht hu hi hsize g n cap cur hg s hroom (by simp at hcs; omega)
   rw [this] at hr
   injection hr with h1 h2
   exact .inl (by rw [← h1]; rfl)
  ·have hxl:xs.length = n:=by simpa using hown.1
   have holds:∀ j u,xs[j]? = some u→w.cell? ((⟨g,0,none⟩:Addr).add j) = some u:=hown.cells (g:=g) rfl
   have:=Lib.run_append_grow_string (P:=P) w t u ty e i (.int .u8 0) ht hu hi hz ⟨g,0,none⟩ n cap xs (by rw [hsize]; simpa using hxl) holds s (by omega) (by omega) (by rw [hby]; exact growslice_fits (by omega) (by omega))
   rw [this] at hr
   injection hr with h1 h2
   exact .inr (by rw [← h1]; rfl)
theorem strCells_ints (s:ByteArray):Lib.strCells s = (bytesOf s).map (Value.int .u8):=by
 simp [Lib.strCells,bytesOf]
theorem ints_rows {ok:Nat→Prop} {k:IntKind}:∀ xs:List Int,All2 (fun x r=>K w ok (.int k) x r) xs (xs.map fun x=>[Value.int k x])
 | []=>trivial
 | x :: xs=>⟨rfl,ints_rows xs⟩
theorem ints_flat {k:IntKind}:∀ xs:List Int,(xs.map fun x=>[Value.int k x]).flatten = xs.map (Value.int k)
 | []=>rfl
 | x :: xs=>by simp [ints_flat xs]
theorem appendS_sound (he:EnvOk P E) (hs:Sim B okA w0 β st a w) {c:Call} {t t':Nat} {x y:Operand} (ho:o.op = .call c) (hc:c.callee = .builtin .append) (ha:c.args.toList = [x,y]) (hat:c.argTypes.toList = [t,t']) {fr:Bool} {s:ByteArray} (hy:st.val y = .d .str fr s) (h:appendSK E o st t t' x s K1 = some r)
  (hn:∀ β' st' a' w',Sim B okA w0 β' st' a' w'→K1 st' = some r→next a' w'):o.wp P a w next Q:=by
 unfold appendSK at h
 split at h
 ·rename_i i i' d hT hT' hd
  split at h
  ·rename_i e hty
   split at h
   ·rename_i ie hTe
    split at h
    ·rename_i hcond
     obtain ⟨hie,hby,hstr⟩:=hcond
     split at h
     ·rename_i s1 hA
      split at h
      ·rename_i e1 t1 fr1 xs hob
       split at h
       ·rename_i ws hcast
        obtain ⟨q1,q2⟩:=cast?_some hcast
        injection q1 with q5 q6
        subst q5; subst q6
        have q2':ws = xs:=q2
        subst q2'
        rcases br_some h with ⟨hb,h⟩ | ⟨_,h⟩
        ·have hb:List.length ws + s.size≤140737488355328:=of_decide_eq_true hb
         have hx:=hs.val x
         rw [hA] at hx
         have hvx:a.eval x = β s1:=hx.1
         have hvy:=hs.val y
         rw [hy] at hvy
         have hvy:=str_of_V hvy
         obtain ⟨css1,g6,g7⟩:=hs.ob _ _ hob
         have hte:=he.T _ _ hTe
         obtain ⟨inf,k1,k2,k3,k4⟩:=hte.info
         rw [hie] at k2 k4
         have hu:=desc_slice (he.T _ _ hT) hty
         have hu':=desc_str (he.T _ _ hT') hstr
         have hz0:inf.zero = some (.int .u8 0):=k4
         have hs1:inf.size = 1:=k2
         have hown1:w.ownsRow B e1 1 (β s1) (List.length ws) css1.flatten:=g6
         obtain ⟨v1,w1,h1,h2,h3,_⟩:=Lib.run_append_own_string (P:=P) w B t t' o.type e1 inf hu hu' k1 hz0 hs1 (by rw [k3,hby]) (β s1) (List.length ws) css1.flatten hown1 s (by simp only [maxLen]; omega) hb hs.size
         have h4:=append_str_block (P:=P) hu hu' k1 hz0 hs1 (by rw [k3,hby]) hown1 s hb h1
         have hex:(execOp a.eval o).run P w = .ok (.value v1) w1:=by
          have r1:c.args = #[x,y]:=by rw [← ha]
          have r2:c.argTypes = #[t,t']:=by rw [← hat]
          simp only [execOp,ho,resolve,hc,r1,r2]
          simp [invoke,builtin,hvx,hvy,h1]
         unfold Oper.wp
         rw [hex]
         show next (a.put o.dst _) _
         rw [hd]
         rw [strCells_ints,← ints_flat,← List.flatten_append] at h2
         have hlen:(ws ++ bytesOf s).length = List.length ws + s.size:=by
          rw [List.length_append]; congr 1
          simp [bytesOf]
         refine hn _ _ _ _ (hs.grown (s:=d) hob (xs:=ws ++ bytesOf s) (fr':=true) (css:=css1 ++ (bytesOf s).map fun x=>[Value.int .u8 x]) h3 (by rw [hlen]; exact h2) h4 ?_) h
         intro G hG
         exact All2.append (g7.imp (fun x c hx=>K_flat rfl hx)) (ints_rows _)
        ·cases h
       ·cases h
      ·cases h
     ·cases h
    ·cases h
   ·cases h
  ·cases h
 ·cases h
theorem run_eq_nil {xt e:Nat} (hu:P.underlying xt = some (.slice e)) (A:Option Addr) (n c:Nat) (w:World):(Op.equal xt (.slice A n c) (.slice none 0 0)).run P w = .ok A.isNone w:=by
 show (Op.equalIn (9999 + 1) xt (.slice A n c) (.slice none 0 0)).run P w = _
 rw [Op.equalIn]
 cases A <;> simp [run_underlying hu]
theorem nilcmp_sound (he:EnvOk P E) (hs:Sim B okA w0 β st a w) {op:BinOp} {xt yt:Nat} {x y:Operand} (ho:o.op = .binOp op xt x y yt) {e:Bool} {i:TI} {e':Nat} {t':Ty} (hA:nilA (st.val x) (st.val y) = some e) (hT:E.T xt = some i) (hty:i.ty = .slice e' t') (h:(nilK op e fun b=>K1 (st.set o.dst (.d .bool true b))) = some r)
  (hn:∀ β' st' a' w',Sim B okA w0 β' st' a' w'→K1 st' = some r→next a' w'):o.wp P a w next Q:=by
 have hvx:=hs.val x
 have hvy:=hs.val y
 unfold nilA at hA
 split at hA
 ·rename_i e1 t1 fr xs hx hy
  injection hA with hA
  rw [hx] at hvx
  rw [hy] at hvy
  have hy':a.eval y = .slice none 0 0:=hvy
  obtain ⟨A,c,css,h1,h2,h3,h4,h5⟩:=slice_of_V hvx
  have hu:=desc_slice (he.T _ _ hT) hty
  have he1:e = false→A.isNone = false:=by
   intro h0
   rw [h0] at hA
   have hp:0 < List.length xs:=by
    cases xs with
    | nil=>simp at hA
    | cons _ _=>simp
   obtain ⟨ad,rfl,_⟩:=h5 hp
   rfl
  have heq:=run_eq_nil (P:=P) hu A (List.length xs) c w
  have fin:∀ b:Bool,(execOp a.eval o).run P w = .ok (.value (.bool b)) w→K1 (st.set o.dst (.d .bool true b)) = some r→o.wp P a w next Q:=fun b hr hk =>
   wp_value hr (hn _ _ _ _ (hs.set (A:=.d .bool true b) (V_bool b) o.dst) hk)
  cases op <;> simp only [nilK] at h <;> first | cases h | skip
  ·refine fin A.isNone ?_ ?_
   ·simp only [execOp,ho,h1,hy',eqGuard,binOp]
    simp [heq]
   ·rcases br_some h with ⟨_,h⟩ | ⟨h0,h⟩
    ·cases A.isNone
     ·exact (both_some h).2
     ·exact (both_some h).1
    ·rw [he1 h0]; exact h
  ·refine fin (!A.isNone) ?_ ?_
   ·simp only [execOp,ho,h1,hy',eqGuard,binOp]
    simp [heq]
   ·rcases br_some h with ⟨_,h⟩ | ⟨h0,h⟩
    ·cases A.isNone
     ·exact (both_some h).1
     ·exact (both_some h).2
    ·rw [he1 h0]; exact h
 ·cases hA
theorem own_sound (he:EnvOk P E) (hs:Sim B okA w0 β st a w) {c:Call} {f:FuncId} (ho:o.op = .call c) (hc:c.callee = .value (.func f)) {K0:Option ρ} (h:ownK E o st f c.argTypes.toList (c.args.toList.map st.val) K1 K0 = some r) (h0:K0 = some r→o.wp P a w next Q)
  (hn:∀ β' st' a' w',Sim B okA w0 β' st' a' w'→K1 st' = some r→next a' w'):o.wp P a w next Q:=by
 unfold ownK at h
 split at h
 ·rename_i ds s hds hd
  split at h
  ·rename_i e te fr res hcr hfree
   obtain ⟨y,h1,h2⟩:=Option.bind_eq_some_iff.1 h
   have hok:=he.C _ _ _ hcr
   obtain ⟨fn,g1,g2,g3⟩:=hok.fn
   have hargs:=dts_V he hs hds
   have hcall:=hok.goes y h1 w (fun k=>okD w B okA β st.ob false k∧k < w.heap.size) (c.args.toList.map a.eval) (fun k hk=>hk.2) (hargs.imp (fun d v hv=>V_step (fun k hk hlt=>⟨⟨hk,hlt⟩,hlt,rfl⟩) hv))
   have hrun:(execOp a.eval o).run P w = .ok (.enter f (c.args.toList.map a.eval).toArray) w:=by
    have h3:(c.args.toList.map a.eval).toArray = c.args.map a.eval:=by
     apply Array.ext'; simp
    rw [h3]
    simp [execOp,ho,resolve,hc,Act.eval,Deferred.ofValue,invoke,callFunc,program,Sem.run,g1,g2,g3]
   unfold Oper.wp
   rw [hrun]
   show Calls P f _ w _
   refine hcall.mono ?_
   rintro e1 w1 ⟨v,rfl,_,hro,hg⟩
   have hro:RowV w1 w.heap.size (fun k=>((okD w B okA β st.ob false k∧k < w.heap.size)∨w.heap.size≤k)∧(fr = true→w.heap.size≤k∧Plain w1 k)) v (.slice e te) y:=hro rfl
   obtain ⟨css,k1,k2⟩:=hro
   have hnr:∀ {k},owns v k→blk v = some k:=fun h=>owns_of h (by rcases k1.2 with ⟨rfl,_⟩ | ⟨g,cap,cur,rfl,_⟩ <;> (intros; simp))
   have hbv:∀ k,owns v k→w.heap.size≤k:=fun k hk=>(own_lt' k1 (hnr hk)).1
   have hlt:s < st.ob.length:=(List.getElem?_eq_some_iff.1 hfree).1
   have hsz:=hs.size
   have hrow:RepO w1 B (okD w1 B okA (upd β s v) (st.ob.set s (some (.arr e te fr y)))) v (.arr e te fr y):=by
    refine ⟨css,⟨k1.1,?_⟩,k2.imp (fun x cl hx=>K_step (fun k hk hlt=>⟨⟨?_,?_,fun hf=>⟨Nat.le_trans hsz (hk.1.2 hf).1,(hk.1.2 hf).2⟩⟩,hlt,rfl⟩) hx)⟩
    ·rcases k1.2 with h3 | ⟨g,cap,cur,h3,h4,h5⟩
     ·exact .inl h3
     ·exact .inr ⟨g,cap,cur,h3,Nat.le_trans hsz h4,h5⟩
    ·rcases hk.1.1 with ⟨h3,_⟩ | h3
     ·exact h3.1
     ·exact .inr (Nat.le_trans hsz h3)
    ·rintro ⟨s',o',h3,h4⟩
     rw [obj_set] at h3
     by_cases es:s = s'
     ·subst es
      simp only [upd,if_true] at h4
      exact hk.2 (hnr h4)
     ·simp only [es,false_and,if_false] at h3
      have h4:owns (β s') k:=by simpa [upd,Ne.symm es] using h4
      rcases hk.1.1 with ⟨h5,_⟩ | h5
      ·exact h5.2.1 ⟨s',o',h3,h4⟩
      ·have:=((hs.ob s' o' h3).lt h4).2
       omega
   have:=hs.new hfree hg (v:=v) (tv:=v) (ob':=.arr e te fr y) (A:=.own s) hbv hrow ⟨by simp [upd],e,te,fr,y,by rw [obj_set]; simp [hlt]⟩
   rw [hd]
   exact hn _ _ _ _ this h2
  ·exact h0 h
 ·exact h0 h
theorem Sim.clear (hs:Sim B okA w0 β st a w) (ts ss:List Nat):Sim B okA w0 β (st.clear ts ss) a w:=by
 have hO:∀ s,St.obj (st.clear ts ss).ob s = if ss.contains s then none else St.obj st.ob s:=by
  intro s
  unfold St.obj St.clear
  simp only [List.getElem?_map,List.getElem?_zipIdx,Nat.zero_add]
  cases st.ob[s]? with
  | none=>simp
  | some o=>by_cases h:ss.contains s <;> simp [h]
 have how:∀ k,Ow β (st.clear ts ss).ob k→Ow β st.ob k:=by
  rintro k ⟨s,o,h1,h2⟩
  rw [hO] at h1
  split at h1
  ·cases h1
  ·exact ⟨s,o,h1,h2⟩
 have hmv:Mv w w (okD w B okA β st.ob) (okD w B okA β (st.clear ts ss).ob):=okD_mv (fun _ _ _=>rfl) (Nat.le_refl _) (fun k _ h=>how k h)
 have hone:∀ s e t xs,St.obj (st.clear ts ss).ob s = some (.row e t xs)→s = 0:=by
  intro s e t xs h
  rw [hO] at h
  split at h
  ·cases h
  ·exact hs.one _ _ _ _ h
 refine { len:=by simp [St.clear,hs.len],tm:=?_,ob:=?_,apart:=?_,below:=hs.below,mrk:=hs.mrk,lt:=hs.lt,one:=hone,ltN:=hs.ltN,ltT:=hs.ltT,size:=hs.size,arg:=hs.arg,pin:=(fun h0 bx1 sh1 t1 x1 h1=>(by rw [hO] at h1; split at h1 <;> first | (cases h1; done) | exact hs.pin h0 _ _ _ _ h1)),defers:=hs.defers }
 ·intro i A' hA
  simp only [St.clear,List.getElem?_map,List.getElem?_zipIdx,Nat.zero_add,Option.map_map,Option.map_eq_some_iff] at hA
  obtain ⟨A0,hA0,rfl⟩:=hA
  simp only [Function.comp_apply,Fil.A.clear]
  by_cases hne:(ts.contains i || A0.inS ss) = true
  ·rw [if_pos hne]; trivial
  ·rw [if_neg hne]
   refine (hs.tm i A0 hA0).step hmv (fun s h1=>⟨rfl,Same.of_eq ?_,fun _ _ _ _ _ _ _=>rfl⟩)
   rw [hO,if_neg]
   intro hc
   refine hne ?_
   have:A0.inS ss = true:=by unfold Fil.A.inS; rw [h1]; exact hc
   rw [this]; simp
 ·intro s o ho
  rw [hO] at ho
  split at ho
  ·cases ho
  ·exact (hs.ob s o ho).step (fun _ _=>rfl) hmv (fun _ _=>rfl)
 ·intro s1 s2 o1 o2 k h1 h2 h3 h4
  rw [hO] at h1 h2
  split at h1
  ·cases h1
  split at h2
  ·cases h2
  exact hs.apart s1 s2 o1 o2 k h1 h2 h3 h4
theorem fun_sound (he:EnvOk P E) (hs:Sim B okA w0 β st a w) {c:Call} {tm:Tmp} (ho:o.op = .call c) (hc:c.callee = .value (.tmp tm)) (h:funK E o st (st.val (.tmp tm)) c.argTypes.toList (c.args.toList.map st.val) K1 = some r)
  (hn:∀ β' st' a' w',Sim B okA w0 β' st' a' w'→K1 st' = some r→next a' w'):o.wp P a w next Q:=by
 unfold funK at h
 split at h
 ·rename_i f cc y d hA hds
  split at h
  ·rename_i tp hF
   split at h
   ·rename_i z hz
    obtain ⟨b,h1,h2⟩:=Option.bind_eq_some_iff.1 h
    have hok:=he.F _ _ _ _ hF
    obtain ⟨fn,g1,g2,g3⟩:=hok.fn
    have hv:=hs.val (.tmp tm)
    rw [hA] at hv
    obtain ⟨ad,cs,e1,e2,e3,e4,e5⟩:=hv
    have hargs:=dts_V he hs hds
    obtain ⟨dt,dfr,dx⟩:=d
    obtain ⟨q1,q2⟩:=cast?_some hz
    simp only at q1
    subst q1
    have q2:z = dx:=q2
    subst q2
    have hl:∃ u,c.args.toList.map a.eval = [u]∧V w (okD w B okA β st.ob false) tp.1 z u:=by
     generalize c.args.toList.map a.eval = L at hargs
     match L,hargs with
     | [u],h3=>exact ⟨u,rfl,h3.1⟩
     | [],h3=>exact h3.elim
     | _ :: _ :: _,h3=>exact h3.2.elim
    obtain ⟨u,hu,hV⟩:=hl
    have hcall:=hok.goes z b h1 w (fun k=>okD w B okA β st.ob false k∧k < w.heap.size) u ad cs (fun k hk=>hk.2) (K_step (fun k hk hlt=>⟨⟨hk,hlt⟩,hlt,rfl⟩) e2) e3 ⟨e4,e5⟩ (V_step (fun k hk hlt=>⟨⟨hk,hlt⟩,hlt,rfl⟩) hV)
    have hrun:(execOp a.eval o).run P w = .ok (.enter f #[u,.pointer (some ad)]) w:=by
     have h3:c.args.map a.eval = #[u]:=by apply Array.ext'; simpa using hu
     simp [execOp,ho,resolve,hc,e1,Deferred.ofValue,h3,invoke,callFunc,program,Sem.run,g1,g2,g3]
    unfold Oper.wp
    rw [hrun]
    show Calls P f _ w _
    refine hcall.mono ?_
    rintro e w1 ⟨rfl,hg⟩
    exact hn _ _ _ w1 ((hs.grow hg).set (A:=.d .bool true b) (v:=.bool b) (V_bool _) o.dst) h2
   ·cases h
  ·cases h
 ·cases h
theorem mkfun_sound (hs:Sim B okA w0 β st a w) {fn:Fn} {first caps:Array Operand} (ho:o.op = .makeFunc fn first caps) (h:effK0 E o st K1 = some r)
  (hn:∀ β' st' a' w',Sim B okA w0 β' st' a' w'→K1 st' = some r→next a' w'):o.wp P a w next Q:=by
 simp only [effK0,ho] at h
 split at h
 ·rename_i f x hf1 hf2
  split at h
  ·rename_i s t0 hA
   split at h
   ·rename_i c fr y hob
    split at h
    ·rename_i hfl
     have hv:=hs.val x
     rw [hA] at hv
     obtain ⟨g,e1,e2,_⟩:=hv
     obtain ⟨g',cs,e,e3,e4,e5,e6⟩:=hs.ob _ _ hob
     rw [e1] at e3
     obtain rfl:g = g':=by injection e3 with e3; injection e3 with e3; injection e3
     have hcl:=hs.clear [] [s]
     have hrun:(execOp a.eval o).run P w = .ok (.value (.func (.func f) #[] #[.pointer (some ⟨g,0,none⟩)])) w:=by
      have r1:first = #[]:=by apply Array.ext'; simpa using hf1
      have r2:caps = #[x]:=by apply Array.ext'; simpa using hf2
      simp [execOp,ho,r1,r2,Instr.makeFunc,e2]
     refine wp_value hrun (hn _ _ _ _ (hcl.set (A:=.fnv f c y) ⟨⟨g,0,none⟩,cs.toList,rfl,K_flat hfl e6,by simpa using at_row e5 0,⟨.inr e4,?_,fun h=>by cases h⟩,(Array.getElem?_eq_some_iff.1 e5).1⟩ o.dst) h)
     rintro ⟨s',o',q1,q2⟩
     have hO:St.obj (st.clear [] [s]).ob s' = if s' = s then none else St.obj st.ob s':=by
      unfold St.obj St.clear
      simp only [List.getElem?_map,List.getElem?_zipIdx,Nat.zero_add]
      cases st.ob[s']? with
      | none=>simp
      | some o=>by_cases h:s' = s <;> simp [h]
     rw [hO] at q1
     split at q1
     ·cases q1
     ·rename_i hne
      exact hne (hs.apart s' s _ _ g q1 hob q2 (by rw [e1]; exact owns_ptr.2 rfl))
    ·cases h
   ·cases h
  ·cases h
 ·cases h
theorem lin_sound (he:EnvOk P E) (hs:Sim B okA w0 β st a w) {c:Call} {f:FuncId} (ho:o.op = .call c) (hc:c.callee = .value (.func f)) {K0:Option ρ} (h:linK E o st f (c.args.toList.map st.val) K1 K0 = some r) (h0:K0 = some r→o.wp P a w next Q)
  (hn:∀ β' st' a' w',Sim B okA w0 β' st' a' w'→K1 st' = some r→next a' w'):o.wp P a w next Q:=by
 unfold linK at h
 split at h
 ·rename_i fr k hargs
  split at h
  ·rename_i e t xs hob
   obtain ⟨r0,h1,h2⟩:=Option.bind_eq_some_iff.1 h
   have hok:=he.X _ _ _ _ _ _ h1
   obtain ⟨fn,g1,g2,g3⟩:=hok.fn
   have hl:∃ y1 y2,c.args.toList = [y1,y2]∧st.val y1 = .xr∧st.val y2 = .d (.int .i64) fr k:=by
    generalize c.args.toList = L at hargs
    match L,hargs with
    | [y1,y2],h3=>simp only [List.map_cons,List.map_nil,List.cons.injEq,and_true] at h3; exact ⟨y1,y2,rfl,h3.1,h3.2⟩
    | [],h3=>simp at h3
    | [_],h3=>simp at h3
    | _ :: _ :: _ :: _,h3=>simp at h3
   obtain ⟨y1,y2,hl,e1,e2⟩:=hl
   have hv1:=hs.val y1
   have hv2:=hs.val y2
   rw [e1] at hv1
   rw [e2] at hv2
   have hk:=int_of_V hv2
   obtain ⟨h0',A,c',css,q1,q2,q3,q4⟩:=hs.ob _ _ hob
   have hV:V w (fun k=>Lin.N k∧Plain w k) (.slice e t) xs (a.eval y1):=by
    rw [hv1.1,q1]
    exact ⟨_,⟨A,c',css,rfl,q2.1,q2.2,q3.imp (fun x r hx=>K_flat hok.flat hx),fun hp=>by
     obtain ⟨ad,p1,p2,p3,p4⟩:=q4 hp
     exact ⟨ad,p1,⟨p2,p3⟩,hs.nlt p2,p4⟩⟩,rfl⟩
   have hcall:=hok.goes w (fun k=>Lin.N k∧Plain w k) (a.eval y1) (fun k hk=>⟨hs.nlt hk.1,hk.2⟩) hV
   have hrun:(execOp a.eval o).run P w = .ok (.enter f #[a.eval y1,.int .i64 k]) w:=by
    have h3:c.args.map a.eval = #[a.eval y1,.int .i64 k]:=by
     apply Array.ext'; simp [hl,hk]
    rw [← h3]
    simp [execOp,ho,resolve,hc,Act.eval,Deferred.ofValue,invoke,callFunc,program,Sem.run,g1,g2,g3]
   unfold Oper.wp
   rw [hrun]
   show Calls P f _ w _
   refine hcall.mono ?_
   rintro e' w1 ⟨rfl,hv',hb⟩
   rw [hv1.1,q1] at hv'
   obtain ⟨A2,c2,css2,p1,p2,p3,p4,p5⟩:=slice_of_V hv'
   have hrv:Lin.rv = .slice A2 r0.2.length c2:=q1.trans p1
   have hlen:r0.2.length = xs.length:=by injection p1 with _ p6 _; exact p6.symm
   have hlt:=lt_of_obj hob
   have hO':∀ s',St.obj (st.ob.set 0 (some (.row e t r0.2))) s' = if 0 = s' then some (.row e t r0.2) else St.obj st.ob s':=by
    intro s'; rw [obj_set]; simp [hlt]
   have hoth:∀ k,¬ Lin.N k→k < w.heap.size→w1.heap[k]? = w.heap[k]?:=fun k hk hlt'=>hb.block k hlt' (fun h=>hk h.1)
   have how:∀ k,Ow β (st.ob.set 0 (some (.row e t r0.2))) k→Ow β st.ob k:=by
    rintro k ⟨s',o',h1,h2⟩
    rw [hO'] at h1
    by_cases es:0 = s'
    ·subst es; exact ⟨0,_,hob,h2⟩
    ·rw [if_neg es] at h1; exact ⟨s',o',h1,h2⟩
   have hmv:Mv w w1 (okD w B okA β st.ob) (okD w1 B okA β (st.ob.set 0 (some (.row e t r0.2)))):=fun fr k hk hlt'=>by
    have:=hoth k (hs.dN hk) hlt'
    exact ⟨⟨hk.1,fun h=>hk.2.1 (how k h),fun h=>⟨(hk.2.2 h).1,(hk.2.2 h).2.step this⟩⟩,by have:=hb.size; omega,this⟩
   have hone:∀ s' e' t' xs',St.obj (st.ob.set 0 (some (.row e t r0.2))) s' = some (.row e' t' xs')→s' = 0:=by
    intro s' e' t' xs' h
    rw [hO'] at h
    split at h
    ·rename_i h0; exact h0.symm
    ·exact hs.one _ _ _ _ h
   have hnew:Sim B okA w0 β ⟨st.tm,st.ob.set 0 (some (.row e t r0.2))⟩ a w1:=by
    refine { len:=hs.len,tm:=fun q A hA=>(hs.tm q A hA).step hmv (fun s1 h1=>⟨rfl,?_,fun bx sh t x ho' k hk=>hoth k (hs.owN ⟨s1,_,ho',hk⟩) ((hs.ob s1 _ ho').lt hk).2⟩),ob:=?_,apart:=?_,below:=hs.below.transM ⟨hb.os,hb.tape,hb.output,hb.size,fun k hk hm=>hb.block k (Nat.lt_of_lt_of_le hk hs.size) (fun h=>hm (.inr (.inl h.1)))⟩,mrk:=hs.mrk.keep (fun k hk=>hoth k (fun h=>(hs.ltN k h).2.2 hk) (hs.mlt hk)),lt:=hs.lt,one:=hone,ltN:=hs.ltN,ltT:=hs.ltT,size:=Nat.le_trans hs.size hb.size,arg:=hs.arg,pin:=(fun h0 bx1 sh1 t1 x1 h1=>(by rw [hO',if_pos rfl] at h1; cases h1)),defers:=hs.defers }
    ·by_cases es:0 = s1
     ·subst es
      unfold Same; rw [hob,hO']; simp [hlen]
     ·exact Same.of_eq (by rw [hO',if_neg es])
    ·intro s' o' ho'
     simp only [hO'] at ho'
     by_cases es:0 = s'
     ·subst es
      simp at ho'
      subst ho'
      exact ⟨h0',A2,c2,css2,hrv,⟨p2,p3⟩,p4.imp (fun x r hx=>K_flat hok.flat hx),fun hp=>by
       obtain ⟨ad,z1,z2,z3,z4⟩:=p5 hp
       exact ⟨ad,z1,z2.1.1,z2.2,z4⟩⟩
     ·rw [if_neg es] at ho'
      have hnr:∀ e1 t1 x1,o'≠.row e1 t1 x1:=by
       rintro e1 t1 x1 rfl
       exact es (hs.one _ _ _ _ ho').symm
      exact (hs.ob s' o' ho').stepNR hnr hmv (fun k hk=>hoth k (hs.owN ⟨s',o',ho',hk⟩) ((hs.ob s' o' ho').lt hk).2)
    ·intro s1 s2 o1 o2 k h1 h2 h3 h4
     simp only [hO'] at h1 h2
     have:∀ s',(∃ o',(if 0 = s' then some (.row e t r0.2) else St.obj st.ob s') = some o')→∃ o',St.obj st.ob s' = some o':=by
      rintro s' ⟨o',h⟩
      by_cases es:0 = s'
      ·subst es; exact ⟨_,hob⟩
      ·rw [if_neg es] at h; exact ⟨_,h⟩
     obtain ⟨o1',g1⟩:=this s1 ⟨_,h1⟩
     obtain ⟨o2',g2⟩:=this s2 ⟨_,h2⟩
     exact hs.apart s1 s2 o1' o2' k g1 g2 h3 h4
   refine hn β _ _ w1 ?_ h2
   have:=Sim.set hnew (A:=.d (.int .i64) true r0.1) (v:=.int .i64 r0.1) (V_int _ _) o.dst
   have hst:St.set ⟨st.tm,st.ob.set 0 (some (.row e t r0.2))⟩ o.dst (.d (.int .i64) true r0.1) = { tm:=(st.set o.dst (.d (.int .i64) true r0.1)).tm,ob:=st.ob.set 0 (some (.row e t r0.2)) }:=by
    cases o.dst <;> rfl
   rw [hst] at this
   exact this
  ·cases h
 ·rename_i e t fr xs f' cc y hargs
  obtain ⟨r0,h1,h2⟩:=Option.bind_eq_some_iff.1 h
  have hok:=he.H _ _ _ _ _ _ _ _ h1
  obtain ⟨fn,g1,g2,g3⟩:=hok.fn
  have hl:∃ y1 y2,c.args.toList = [y1,y2]∧st.val y1 = .d (.slice e t) fr xs∧st.val y2 = .fnv f' cc y:=by
   generalize c.args.toList = L at hargs
   match L,hargs with
   | [y1,y2],h3=>simp only [List.map_cons,List.map_nil,List.cons.injEq,and_true] at h3; exact ⟨y1,y2,rfl,h3.1,h3.2⟩
   | [],h3=>simp at h3
   | [_],h3=>simp at h3
   | _ :: _ :: _ :: _,h3=>simp at h3
  obtain ⟨y1,y2,hl,e1,e2⟩:=hl
  have hv1:=hs.val y1
  have hv2:=hs.val y2
  rw [e1] at hv1
  rw [e2] at hv2
  obtain ⟨ad,cs,f1,f2,f3,f4,f5⟩:=hv2
  have hcall:=hok.goes w (fun k=>okD w B okA β st.ob false k∧k < w.heap.size) (a.eval y1) (a.eval y2) (fun k hk=>hk.2) (V_step (fun k hk hlt=>⟨⟨⟨hk.1,hk.2.1,fun h=>by cases h⟩,hlt⟩,hlt,rfl⟩) hv1) ⟨ad,cs,f1,K_step (fun k hk hlt=>⟨⟨hk,hlt⟩,hlt,rfl⟩) f2,f3,⟨f4,f5⟩,f5⟩
  have hrun:(execOp a.eval o).run P w = .ok (.enter f #[a.eval y1,a.eval y2]) w:=by
   have h3:c.args.map a.eval = #[a.eval y1,a.eval y2]:=by
    apply Array.ext'; simp [hl]
   rw [← h3]
   simp [execOp,ho,resolve,hc,Act.eval,Deferred.ofValue,invoke,callFunc,program,Sem.run,g1,g2,g3]
  unfold Oper.wp
  rw [hrun]
  show Calls P f _ w _
  refine hcall.mono ?_
  rintro e' w1 ⟨rfl,hg⟩
  exact hn _ _ _ w1 ((hs.grow hg).set (A:=.d (.int .i64) true r0) (v:=.int .i64 r0) (V_int _ _) o.dst) h2
 ·rename_i t x fr k hargs
  obtain ⟨k',h1,h2⟩:=Option.bind_eq_some_iff.1 h
  have hok:=he.L _ _ _ _ _ h1
  obtain ⟨fn,g1,g2,g3⟩:=hok.fn
  have hl:∃ y1 y2,c.args.toList = [y1,y2]∧st.val y1 = .lin t x∧st.val y2 = .d (.int .i64) fr k:=by
   generalize c.args.toList = L at hargs
   match L,hargs with
   | [y1,y2],h3=>simp only [List.map_cons,List.map_nil,List.cons.injEq,and_true] at h3; exact ⟨y1,y2,rfl,h3.1,h3.2⟩
   | [],h3=>simp at h3
   | [_],h3=>simp at h3
   | _ :: _ :: _ :: _,h3=>simp at h3
  obtain ⟨y1,y2,hl,e1,e2⟩:=hl
  have hv1:=hs.val y1
  have hv2:=hs.val y2
  rw [e1] at hv1
  rw [e2] at hv2
  have hV:VL w Lin.M t x (a.eval y1):=VL_mark hs.mrk hv1
  have hk:=int_of_V hv2
  have hself:Mark Lin.M w w:=fun k hk=>by
   obtain ⟨cs,cs',e,q1,q2,q3,q4⟩:=hs.mrk k hk
   exact ⟨cs',cs',e,q2,q2,rfl,fun j u hu=>⟨u,hu,Sc.refl u⟩⟩
  have hcall:=hok.goes w Lin.M (a.eval y1) hself hV
  have hrun:(execOp a.eval o).run P w = .ok (.enter f #[a.eval y1,.int .i64 k]) w:=by
   have h3:c.args.map a.eval = #[a.eval y1,.int .i64 k]:=by
    apply Array.ext'; simp [hl,hk]
   rw [← h3]
   simp [execOp,ho,resolve,hc,Act.eval,Deferred.ofValue,invoke,callFunc,program,Sem.run,g1,g2,g3]
  unfold Oper.wp
  rw [hrun]
  show Calls P f _ w _
  refine hcall.mono ?_
  rintro e w1 ⟨rfl,hm,hb⟩
  refine hn β _ _ w1 (Sim.set (A:=.d (.int .i64) true k') (v:=.int .i64 k') ?_ (V_int _ _) o.dst) h2
  have hoth:∀ k,¬ Lin.M k→k < w.heap.size→w1.heap[k]? = w.heap[k]?:=fun k hk hlt=>hb.block k hlt hk
  have hmv:Mv w w1 (okD w B okA β st.ob) (okD w1 B okA β st.ob):=fun fr k hk hlt=>by
   have:=hoth k (hs.dM hk) hlt
   exact ⟨⟨hk.1,hk.2.1,fun h=>⟨(hk.2.2 h).1,(hk.2.2 h).2.step this⟩⟩,by have:=hb.size; omega,this⟩
  exact { len:=hs.len,tm:=fun j A hA=>(hs.tm j A hA).step hmv (fun s _=>⟨rfl,Same.refl _ _,fun bx sh t x ho' k hk=>hoth k (hs.owM ⟨s,_,ho',hk⟩) ((hs.ob s _ ho').lt hk).2⟩),ob:=fun s o' ho'=>(hs.ob s o' ho').step (fun k hk=>hoth k (hs.ltN k hk).2.2 (hs.nlt hk)) hmv (fun k hk=>hoth k (hs.owM ⟨s,o',ho',hk⟩) ((hs.ob s o' ho').lt hk).2),apart:=hs.apart,below:=hs.below.transM ⟨hb.os,hb.tape,hb.output,hb.size,fun k hk hm=>hb.block k (Nat.lt_of_lt_of_le hk hs.size) (fun h=>hm (.inl h))⟩,mrk:=hs.mrk.trans hm,lt:=hs.lt,one:=hs.one,ltN:=hs.ltN,ltT:=hs.ltT,size:=Nat.le_trans hs.size hb.size,arg:=hs.arg,pin:=hs.pin,defers:=hs.defers }
 ·exact h0 h
theorem eff0_sound (he:EnvOk P E) (hs:Sim B okA w0 β st a w) (h:effK0 E o st K1 = some r)
  (hn:∀ β' st' a' w',Sim B okA w0 β' st' a' w'→K1 st' = some r→next a' w'):o.wp P a w next Q:=by
 have hcomp:(compK E o st.val st.ob fun A=>K1 (st.set o.dst A)) = some r→o.wp P a w next Q:=fun h =>
  comp_sound he hs h (fun A v w1 hg hA hk=>hn _ _ _ _ ((hs.grow hg).set hA o.dst) hk)
 cases ho:o.op with
 | alloc t=>exact alloc_sound he hs ho h hn
 | box t x=>exact box_sound he hs ho h hn
 | buildSlice t n ps=>exact lit_sound he hs ho h hn
 | makeSlice t x y=>exact make_sound he hs ho h hn
 | store t p x=>exact store_sound he hs ho h hn
 | makeFunc fn first caps=>exact mkfun_sound hs ho h hn
 | assign x =>
  by_cases hx:x = .const (.slice none 0 0)
  ·subst hx; exact nilarr_sound he hs ho h hn
  ·refine hcomp ?_
   rw [← h]
   unfold effK0
   rw [ho]
   split
   all_goals first
    | rfl
    | (rename_i hq; injection hq with hq; exact absurd hq hx)
    | (rename_i hq; cases hq)
 | call c =>
  have h':=h
  simp only [effK0,ho] at h'
  split at h'
  ·rename_i hc
   split at h'
   ·rename_i x y t t' ha hat
    split at h'
    ·rename_i fr s hy
     exact appendS_sound he hs ho hc ha hat hy h' hn
    ·exact append_sound he hs ho hc ha hat h' hn
   ·cases h'
  ·rename_i tm hc
   exact fun_sound he hs ho hc h' hn
  ·rename_i f hc
   exact lin_sound he hs ho hc h' (fun h''=>own_sound he hs ho hc h'' hcomp hn) hn
  ·exact hcomp h'
 | binOp op xt x y yt =>
  have h':=h
  simp only [effK0,ho] at h'
  split at h'
  ·rename_i e i hA hT
   split at h'
   ·rename_i e' t' hty
    exact nilcmp_sound he hs ho hA hT hty h' hn
   ·cases h'
  ·exact hcomp h'
 | _=>exact hcomp (by simpa only [effK0,ho] using h)
end
end Go.Fil
