/- Operations that make a value, one by one. -/
import Derived.Test.YtofllafpneanoaaGreatDoorFilS
set_option linter.unusedSectionVars false
namespace Go.Fil
open Go.RowKit
set_option linter.unusedVariables false
set_option linter.unusedSimpArgs false
theorem add_at' (g m n:Nat):(⟨g,m,none⟩:Addr).add n = ⟨g,m + n,none⟩:=by
  unfold Addr.add; split <;> simp_all
theorem at_row {w:World} {g e:Nat} {cs:Array Value} {fr:Nat × Nat} (h:w.heap[g]? = some (.cells cs e fr)) (off:Nat):At w ⟨g,off,none⟩ (cs.toList.drop off):=fun j u hu=>by
  rw [add_at']
  simp only [World.cell?,h]
  simpa using hu
theorem flat_len {w:World} {ok:Nat→Prop} {t:Ty} {xs:List t.T} {css:List (List Value)} (h:All2 (fun x r=>K w ok t x r) xs css):∀ c∈css,c.length = t.sz:=by
  intro c hc
  obtain ⟨i,hi,rfl⟩:=List.mem_iff_getElem.1 hc
  have hl:=h.length
  exact K_len (h.get (i:=i) (List.getElem?_eq_getElem (by omega)) (List.getElem?_eq_getElem hi))
/-- Element i of a row of cells. -/
theorem elem_K {w:World} {ok:Nat→Prop} {t:Ty} {xs:List t.T} {css:List (List Value)} (h:All2 (fun x r=>K w ok t x r) xs css) {ad:Addr} (hc:At w ad css.flatten) {i:Nat} (hi:i < xs.length) (z:t.T) :
    ∃ c,K w ok t (xs.getD i z) c∧At w (ad.add (i * t.sz)) c∧css[i]? = some c:=by
  have hl:=h.length
  have hg:css[i]? = some css[i]:=List.getElem?_eq_getElem (by omega)
  refine ⟨css[i],?_,?_,hg⟩
  · rw [List.getD_eq_getElem?_getD,List.getElem?_eq_getElem hi]
    exact h.get (List.getElem?_eq_getElem hi) hg
  · have:=(hc.drop (i * t.sz)).take t.sz
    rwa [flat_get (flat_len h) hg] at this
theorem flat_ints {w:World} {ok:Nat→Prop} {k:IntKind}:∀ {xs:List Int} {css:List (List Value)},All2 (fun x r=>K w ok (.int k) x r) xs css→css.flatten = xs.map (Value.int k)
  | [],[],_=>rfl
  | x :: xs,c :: css,h=>by
    have h1:c = [.int k x]:=h.1
    rw [List.flatten_cons,flat_ints h.2,h1]; rfl
section
variable [Lin] {P:Program} {E:Env} {o:Oper} {a:Act} {w:World} {next:Act→World→Prop} {Q:Exit→Act→World→Prop} {B:Nat} {okA:Nat→Prop} {w0:World} {β:Nat→Value} {st:St} {ρ:Type} {K':A→Option ρ} {r:ρ}
theorem wp_gives {s:Sem Value} {G:Bool→Nat→Prop} {ob:List (Option Ob)} (hx:execOp a.eval o = (do pure (.value (← s)))) (hg:∃ A,K' A = some r∧Gives P w G β ob s A)
    (hn:∀ A v,RepA w G β ob A v→K' A = some r→next (a.put o.dst v) w):o.wp P a w next Q:=by
  obtain ⟨A,h1,v,h2,h3⟩:=hg
  refine wp_value (v:=v) ?_ (hn A v h3 h1)
  rw [hx]; simp [h2]
theorem V_of {ok:Nat→Prop} {t:Ty} {x:t.T} {cs:List Value} (h:K w ok t x cs):V w ok t x (t.val cs):=⟨cs,h,rfl⟩
theorem V_fr {B:Nat} {okA:Nat→Prop} {β:Nat→Value} {ob:List (Option Ob)} {fr:Bool} {t:Ty} {x:t.T} {v:Value} (h:V w (okD w B okA β ob fr) t x v):V w (okD w B okA β ob (fr || t.flat)) t x v:=by
  cases fr
  · cases hf:t.flat
    · simpa [hf] using h
    · obtain ⟨cs,h1,h2⟩:=h
      exact ⟨cs,K_flat hf h1,h2⟩
  · simpa using h
theorem load_gives (he:EnvOk P E) (hs:Sim B okA w0 β st a w) {t:Nat} {x:Operand} (ho:o.op = .load t x) (h:compK E o st.val st.ob K' = some r) :
    ∃ A,K' A = some r∧Gives P w (okD w B okA β st.ob) β st.ob (Instr.loadAt t (a.eval x)) A:=by
  have hv:=hs.val x
  simp only [compK,ho] at h
  cases hT:E.T t with
  | none=>simp [hT] at h
  | some i =>
    have ht:=he.T _ _ hT
    cases hA:st.val x with
    | rp t' fr x0 =>
      simp only [hT,hA] at h hv
      obtain ⟨ad,cs,h1,h2,h3,h4,h5⟩:=hv
      split at h
      · rename_i y hy
        obtain ⟨rfl,rfl⟩:=cast?_some hy
        refine ⟨_,h,_,?_,V_fr (V_of h2)⟩
        simp [Instr.loadAt,h1,Instr.sureAddr,run_loadVar ht (K_len h2) h3]
      · cases h
    | ptr s off t' =>
      simp only [hT,hA] at h hv
      split at h
      · rename_i t0 fr x0 hob
        split at h
        · rename_i y hy
          obtain ⟨g,hb,h1,_⟩:=hv
          obtain ⟨g',cs,e,h2,h3,h4,h5⟩:=hs.ob _ _ hob
          rw [hb] at h2
          obtain rfl:g = g':=by injection h2 with h2; injection h2 with h2; injection h2
          have h6:=sub_K hy h5
          refine ⟨_,h,_,?_,V_fr (V_of h6)⟩
          simp [Instr.loadAt,h1,Instr.sureAddr,run_loadVar ht (K_len h6) ((at_row h4 off).take _)]
        · cases h
      · cases h
    | ep s j off t' =>
      simp only [hT,hA] at h hv
      split at h
      · rename_i e te fr xs hob
        split at h
        · rename_i y hy
          obtain ⟨g,n,c,hb,e',te',fr',xs',hob',hj0,hj1,h1⟩:=hv
          rw [hob] at hob'
          obtain ⟨rfl,rfl,rfl,hx⟩:e = e'∧te = te'∧fr = fr'∧HEq xs xs':=by
            injection hob' with h7; injection h7 with h8 h9 h10 h11; exact ⟨h8,h9,h10,h11⟩
          obtain rfl:=eq_of_heq hx
          obtain ⟨css,h2,h3⟩:=hs.ob _ _ hob
          have hc:At w ⟨g,0,none⟩ css.flatten:=h2.cells (by rw [hb]; rfl)
          obtain ⟨cl,h4,h5,_⟩:=elem_K h3 hc hj1 te.zero
          have h6:=sub_K hy h4
          refine ⟨_,h,_,?_,V_fr (V_of h6)⟩
          have h7:=(h5.drop off).take i.ty.sz
          rw [add_at',add_at',Nat.zero_add] at h7
          simp [Instr.loadAt,h1,Instr.sureAddr,run_loadVar ht (K_len h6) h7]
        · cases h
      · cases h
    | orp c t' x0 =>
      simp only [hT,hA] at h hv
      obtain ⟨ad,cs,h1,h2,h3,h4,h5⟩:=hv
      split at h
      · rename_i y hy
        obtain ⟨rfl,rfl⟩:=cast?_some hy
        refine ⟨_,h,_,?_,cs,h2,rfl⟩
        simp [Instr.loadAt,h1,Instr.sureAddr,run_loadVar ht (K_len h2) h3]
      · cases h
    | lb t' x0 =>
      simp only [hT,hA] at h hv
      obtain ⟨ad,cs,h1,h2,h3,h4,h5⟩:=hv
      split at h
      · rename_i y hy
        obtain ⟨rfl,rfl⟩:=cast?_some hy
        refine ⟨_,h,_,?_,cs,h2,rfl⟩
        simp [Instr.loadAt,h1,Instr.sureAddr,run_loadVar ht (KL_len h2) h3]
      · cases h
    | lp t' x0 =>
      cases t' with
      | slice e te =>
        simp only [hT,hA] at h hv
        obtain ⟨ad,cs,h1,h2,h3,h4⟩:=hv
        split at h
        · rename_i y hy
          obtain ⟨q,hyx⟩:=cast?_some hy
          obtain ⟨A,c,css,rfl,g⟩:=h2
          obtain ⟨L2,k1,k2⟩:=hs.mrk.at h4 h3
          match L2,k1,k2 with
          | [u],k1,k2 =>
            have hu:u = .slice A x0.length c:=by
              rcases k2.1 with h7 | ⟨k',n',m',h1,_⟩ | ⟨b',c',h1,_⟩ | ⟨s',r',h1,_⟩
              · exact h7.symm
              all_goals cases h1
            subst hu
            obtain ⟨ity,ib,ifl,ic⟩:=i
            simp only at q
            subst q
            have hyx:y = x0:=hyx
            subst hyx
            refine ⟨_,h,.slice A y.length c,?_,[.slice A y.length c],⟨A,c,css,rfl,g⟩,rfl⟩
            have:=run_loadVar (w:=w) ht (ad:=ad) (cs:=[.slice A y.length c]) rfl k1
            simp only [Ty.val,Ty.agg] at this
            simp [Instr.loadAt,h1,Instr.sureAddr,this]
        · cases h
      | _=>simp [hT,hA] at h
    | pt s p off t' =>
      simp only [hT,hA] at h hv
      split at h
      · rename_i bx sh t0 x0 hob
        split at h
        · rename_i y s1 hg hsh
          obtain ⟨g,q,cs,L1,h1,h2,h3,h4⟩:=hs.at_pt hv hob hg hsh
          refine ⟨_,h,_,?_,rdA_rep h4 h3⟩
          simp [Instr.loadAt,h1,Instr.sureAddr,run_loadVar ht (KS_len h4) h2]
        · cases h
      · cases h
    | pb s off t' =>
      simp only [hT,hA] at h hv
      split at h
      · rename_i sh t0 x0 hob
        split at h
        · rename_i y s1 hg hsh
          obtain ⟨ad,h1,h2,h3,h4,h5⟩:=hv
          obtain ⟨L,hb⟩:=hs.pin h5 _ _ _ _ hob
          generalize Lin.rv = u at h2 hb
          obtain ⟨rc,Lr,hr⟩:=hs.root hob hb
          have hpc:PC w L (rootC w false u) [] off i.ty.sz ((u.cells.toList.drop off).take i.ty.sz):=.inl ⟨rfl,by simp [rootC]⟩
          obtain ⟨L1,k1,_⟩:=hs.place (p:=[]) hob hb hpc hg hsh
          refine ⟨_,h,_,?_,rdA_rep k1 ⟨u,L,false,sh,t0,x0,_,hb,hob,hr.inL,hpc,rfl⟩⟩
          simp [Instr.loadAt,h1,Instr.sureAddr,run_loadVar ht (KS_len k1) ((h2.drop off).take _)]
        · cases h
      · cases h
    | _=>simp [hT,hA] at h
theorem run_fieldAt {s f off:Nat} {i:TI} {ft:Ty} (ht:TGood P s i) (hf:i.flds[f]? = some (off,ft)) (ad:Addr):(Instr.fieldAt s (.pointer (some ad)) f).run P w = .ok (.pointer (some (ad.add off))) w∧0 < ft.sz:=by
  obtain ⟨d,h1,h2⟩:=ht.und
  have:∃ fs,d = .struct fs∧∃ fld,fs[f]? = some fld∧fld.offset = off∧(∃ inf,P.info? fld.type = some inf∧inf.size = ft.sz)∧0 < ft.sz:=by
    unfold DescOk at h2
    cases hy:i.ty <;> simp only [hy] at h2
    all_goals first
      | (rw [h2.2] at hf; simp at hf; done)
      | (rw [h2.2.1] at hf; simp at hf; done)
      | (cases ha:i.arr with
         | none =>
           simp only [ha] at h2
           obtain ⟨fs,rfl,_,h3⟩:=h2
           obtain ⟨fld,h4,h5,h6,h7,_⟩:=h3 f off ft hf
           exact ⟨fs,rfl,fld,h4,h5,h6,h7⟩
         | some q =>
           simp only [ha] at h2
           rw [h2.2.1] at hf; simp at hf)
  obtain ⟨fs,rfl,fld,h3,rfl,⟨inf,h4,h5⟩,h6⟩:=this
  refine ⟨?_,h6⟩
  have hz:¬ ft.sz = 0:=by omega
  simp [Instr.fieldAt,run_underlying h1,h3,Instr.sureAddr,fieldPlace,sizeOf,typeInfo,h4,h5,hz]
theorem desc_slice {t e:Nat} {te:Ty} {i:TI} (ht:TGood P t i) (hy:i.ty = .slice e te):P.underlying t = some (.slice e):=by
  obtain ⟨d,h1,h2⟩:=ht.und
  simp only [DescOk,hy] at h2
  rw [h1,h2.1]
theorem desc_elem {t e:Nat} {te:Ty} {i:TI} (ht:TGood P t i) (hy:i.ty = .slice e te) (w:World):(sizeOf e).run P w = .ok te.sz w:=by
  obtain ⟨d,h1,h2⟩:=ht.und
  simp only [DescOk,hy] at h2
  obtain ⟨_,_,inf,h3,h4⟩:=h2
  simp [sizeOf,typeInfo,h3,h4]
theorem in_bounds {j:Int} {n:Nat} (h:(decide (0≤j) && decide (j < (n:Int))) = true):0≤j∧j < (n:Int)∧j.toNat < n:=by
  rw [Bool.and_eq_true] at h
  have h1:=of_decide_eq_true h.1
  have h2:=of_decide_eq_true h.2
  omega
theorem desc_str {t:Nat} {i:TI} (ht:TGood P t i) (hy:i.ty = .str):P.underlying t = some .string:=by
  obtain ⟨d,h1,h2⟩:=ht.und
  simp only [DescOk,hy] at h2
  rw [h1,h2.1]
theorem desc_int {t:Nat} {k:IntKind} {i:TI} (ht:TGood P t i) (hy:i.ty = .int k):P.underlying t = some (.int k):=by
  obtain ⟨d,h1,h2⟩:=ht.und
  simp only [DescOk,hy] at h2
  rw [h1,h2.1]
theorem un_gives (hs:Sim B okA w0 β st a w) {op:UnOp} {xt:Nat} {x:Operand} (ho:o.op = .unOp op xt x) (h:compK E o st.val st.ob K' = some r) :
    ∃ A,K' A = some r∧Gives P w (okD w B okA β st.ob) β st.ob (Op.unary op (a.eval x)) A:=by
  have hv:=hs.val x
  simp only [compK,ho] at h
  split at h
  · rename_i _ fr b hA
    rw [hA] at hv
    rw [bool_of_V hv]
    exact ⟨_,h,_,by simp [Op.unary],V_bool _⟩
  · rename_i _ k fr n hA
    rw [hA] at hv
    rw [int_of_V hv]
    exact ⟨_,h,_,by simp [Op.unary,Op.intArith],V_int _ _⟩
  · cases h
theorem pick_gives (hs:Sim B okA w0 β st a w) {c x y:Operand} (ho:o.op = .pick c x y) (h:compK E o st.val st.ob K' = some r) :
    ∃ A,K' A = some r∧Gives P w (okD w B okA β st.ob) β st.ob (do pure (if ← asBool (a.eval c) then a.eval x else a.eval y)) A:=by
  have hv:=hs.val c
  simp only [compK,ho] at h
  split at h
  · rename_i fr b hA
    rw [hA] at hv
    rw [bool_of_V hv]
    rcases br_some h with ⟨hb,h⟩ | ⟨hb,h⟩
    · subst hb; exact ⟨_,h,_,by simp [asBool],hs.val x⟩
    · subst hb; exact ⟨_,h,_,by simp [asBool],hs.val y⟩
  · cases h
theorem fieldAddr_gives (he:EnvOk P E) (hs:Sim B okA w0 β st a w) {s f:Nat} {x:Operand} (ho:o.op = .fieldAddr s x f) (h:compK E o st.val st.ob K' = some r) :
    ∃ A,K' A = some r∧Gives P w (okD w B okA β st.ob) β st.ob (Instr.fieldAt s (a.eval x) f) A:=by
  have hv:=hs.val x
  simp only [compK,ho] at h
  cases hT:E.T s with
  | none=>simp [hT] at h
  | some i =>
    have ht:=he.T _ _ hT
    simp only [hT] at h
    cases hf:i.flds[f]? with
    | none=>simp [hf] at h
    | some p =>
      obtain ⟨off,ft⟩:=p
      simp only [hf] at h
      cases hA:st.val x with
      | rp t fr v =>
        simp only [hA] at h hv
        split at h
        · rename_i hti
          split at h
          · rename_i y hy
            obtain ⟨ad,cs,h1,h2,h3,h4,h5⟩:=hv
            have hr:=run_fieldAt (w:=w) ht hf ad
            have h6:=sub_K hy h2
            exact ⟨_,h,_,by rw [h1]; exact hr.1,ad.add off,_,rfl,h6,(h3.drop off).take _,by rw [add_block]; exact h4,by rw [add_block]; exact h5⟩
          · cases h
        · cases h
      | ptr s' o' t =>
        simp only [hA] at h hv
        split at h
        · obtain ⟨g,h1,h2,h3⟩:=hv
          have hr:=run_fieldAt (w:=w) ht hf ⟨g,o',none⟩
          rw [add_at'] at hr
          exact ⟨_,h,_,by rw [h2]; exact hr.1,g,h1,rfl,h3⟩
        · cases h
      | ep s' j o' t =>
        simp only [hA] at h hv
        split at h
        · obtain ⟨g,n,c,h1,e,te,fr,xs,h3,h4,h5,h2⟩:=hv
          have hr:=run_fieldAt (w:=w) ht hf ⟨g,j.toNat * te.sz + o',none⟩
          rw [add_at'] at hr
          exact ⟨_,h,_,by rw [h2]; exact hr.1,g,n,c,h1,e,te,fr,xs,h3,h4,h5,by rw [Nat.add_assoc]⟩
        · cases h
      | xp j' o' t =>
        simp only [hA] at h hv
        split at h
        · obtain ⟨ad,n,c,h1,e,te,xs,h3,h4,h5,h2⟩:=hv
          have hr:=run_fieldAt (w:=w) ht hf (ad.add (j'.toNat * te.sz + o'))
          rw [add_add] at hr
          exact ⟨_,h,_,by rw [h2]; exact hr.1,ad,n,c,h1,e,te,xs,h3,h4,h5,by rw [Nat.add_assoc]⟩
        · cases h
      | lp t v =>
        simp only [hA] at h hv
        split at h
        · rename_i hti
          split at h
          · rename_i y hy
            obtain ⟨ad,cs,h1,h2,h3,h4⟩:=hv
            have hr:=run_fieldAt (w:=w) ht hf ad
            have h6:=sub_KL hy h2
            exact ⟨_,h,_,by rw [h1]; exact hr.1,ad.add off,_,rfl,h6,(h3.drop off).take _,by rw [add_block]; exact h4⟩
          · cases h
        · cases h
      | lb t v =>
        simp only [hA] at h hv
        split at h
        · rename_i hti
          split at h
          · rename_i y hy
            obtain ⟨ad,cs,h1,h2,h3,h4,h5⟩:=hv
            have hr:=run_fieldAt (w:=w) ht hf ad
            have h6:=sub_KL hy h2
            exact ⟨_,h,_,by rw [h1]; exact hr.1,ad.add off,_,rfl,h6,(h3.drop off).take _,by rw [add_block]; exact h4,by rw [add_block]; exact h5⟩
          · cases h
        · cases h
      | pt s' p o' t =>
        simp only [hA] at h hv
        split at h
        · obtain ⟨u,L,bx,sh,t0,x0,hb,hob,hv⟩:=hv
          rcases hv with ⟨rfl,rfl,g,rfl,h2⟩ | ⟨hin,g,q,hpl,h2⟩
          · have hr:=run_fieldAt (w:=w) ht hf ⟨g,o',none⟩
            rw [add_at'] at hr
            exact ⟨_,h,_,by rw [h2]; exact hr.1,_,L,true,sh,t0,x0,hb,hob,.inl ⟨rfl,rfl,g,rfl,rfl⟩⟩
          · have hr:=run_fieldAt (w:=w) ht hf ⟨g,q,none⟩
            rw [add_at'] at hr
            exact ⟨_,h,_,by rw [h2]; exact hr.1,u,L,bx,sh,t0,x0,hb,hob,.inr ⟨hin,g,q + off,hpl.add off,rfl⟩⟩
        · cases h
      | pb s' o' t =>
        simp only [hA] at h hv
        split at h
        · obtain ⟨ad,h2,h3,h4,h5,h6⟩:=hv
          have hr:=run_fieldAt (w:=w) ht hf (ad.add o')
          rw [add_add] at hr
          exact ⟨_,h,_,by rw [h2]; exact hr.1,ad,rfl,h3,h4,h5,h6⟩
        · cases h
      | _=>simp [hA] at h
theorem index_gives (he:EnvOk P E) (hs:Sim B okA w0 β st a w) {t:Nat} {x ix:Operand} (ho:o.op = .index t x ix) (h:compK E o st.val st.ob K' = some r) :
    ∃ A,K' A = some r∧Gives P w (okD w B okA β st.ob) β st.ob (Instr.index t (a.eval x) (a.eval ix)) A:=by
  have hv:=hs.val x
  have hi:=hs.val ix
  simp only [compK,ho] at h
  split at h
  · rename_i i fr v k fr' j hT hA hI
    have ht:=he.T _ _ hT
    rw [hA] at hv
    rw [hI] at hi
    rw [str_of_V hv,int_of_V hi]
    split at h
    · rename_i hy
      rcases br_some h with ⟨hb,h⟩ | ⟨_,h⟩
      · have hb:=in_bounds hb
        have hlt:j.toNat < v.size:=hb.2.2
        refine ⟨_,h,_,?_,V_int _ _⟩
        have hb':v[j.toNat]? = some v[j.toNat]:=getElem?_pos v j.toNat hlt
        have hd:v.data[j.toNat]? = some v[j.toNat]:=by
          rw [Array.getElem?_eq_getElem (show j.toNat < v.data.size from hlt)]; rfl
        simp [Instr.index,asIntOf,run_underlying (desc_str ht hy),hb.1,hb',bt,hd]
      · cases h
    · cases h
  · cases h
omit [Lin] in
theorem pickK_some {ρ:Type} {r:ρ} {j:Int} {K:Nat→Option ρ}:∀ (q m:Nat),pickK j K q m = some r→∃ p,p < q + m∧j = (p:Int)∧K p = some r
  | q,0,h=>by simp [pickK] at h
  | q,m + 1,h=>by
    simp only [pickK] at h
    rcases br_some h with ⟨hj,h⟩ | ⟨_,h⟩
    · exact ⟨q,by omega,of_decide_eq_true hj,h⟩
    · obtain ⟨p,h1,h2,h3⟩:=pickK_some (q + 1) m h
      exact ⟨p,by omega,h2,h3⟩
theorem indexAddr_gives (he:EnvOk P E) (hs:Sim B okA w0 β st a w) {t:Nat} {x ix:Operand} (ho:o.op = .indexAddr t x ix) (h:compK E o st.val st.ob K' = some r) :
    ∃ A,K' A = some r∧Gives P w (okD w B okA β st.ob) β st.ob (Instr.indexAt t (a.eval x) (a.eval ix)) A:=by
  have hv:=hs.val x
  have hi:=hs.val ix
  simp only [compK,ho] at h
  split at h
  · rename_i i e te fr xs k fr' j hT hA hI
    have ht:=he.T _ _ hT
    rw [hA] at hv
    rw [hI] at hi
    split at h
    · rename_i hy
      rcases br_some h with ⟨hb,h⟩ | ⟨_,h⟩
      · have hb:=in_bounds hb
        obtain ⟨A,c,css,h1,h2,h3,h4,h5⟩:=slice_of_V hv
        have hj:j.toNat < xs.length:=hb.2.2
        obtain ⟨ad,rfl,h6,h7,h8⟩:=h5 (by omega)
        obtain ⟨cl,h9,h10,_⟩:=elem_K h4 h8 hj te.zero
        refine ⟨_,h,_,?_,ad.add (j.toNat * te.sz),cl,rfl,h9,h10,by rw [add_block]; exact h6,by rw [add_block]; exact h7⟩
        have hsz:=desc_elem ht hy w
        rw [h1,int_of_V hi]
        simp [Instr.indexAt,asIntOf,run_underlying (desc_slice ht hy),hb.1,hb.2.1,hsz]
      · cases h
    · cases h
  · rename_i i e te xs k fr' j hT hA hI
    have ht:=he.T _ _ hT
    rw [hA] at hv
    rw [hI] at hi
    split at h
    · rename_i hy
      rcases br_some h with ⟨hb,h⟩ | ⟨_,h⟩
      · have hb:=in_bounds hb
        obtain ⟨A,c,css,h1,h2,h3,h4,h5⟩:=VL_slice hv
        have hj:j.toNat < xs.length:=hb.2.2
        obtain ⟨ad,rfl,h6,h7,h8⟩:=h5 (by omega)
        obtain ⟨cl,h9,h10⟩:=elem_KL h4 h8 hj te.zero
        refine ⟨_,h,_,?_,ad.add (j.toNat * te.sz),cl,rfl,h9,h10,by rw [add_block]; exact h6⟩
        have hsz:=desc_elem ht hy w
        rw [h1,int_of_V hi]
        simp [Instr.indexAt,asIntOf,run_underlying (desc_slice ht hy),hb.1,hb.2.1,hsz]
      · cases h
    · cases h
  · rename_i i k fr' j hT hA hI
    have ht:=he.T _ _ hT
    rw [hA] at hv
    rw [hI] at hi
    split at h
    · rename_i e te xs hob
      split at h
      · rename_i hy
        rcases br_some h with ⟨hb,h⟩ | ⟨_,h⟩
        · have hb:=in_bounds hb
          obtain ⟨h1,_⟩:=hv
          obtain ⟨_,A,c,css,h2,_,h3,h4⟩:=hs.ob _ _ hob
          have hj:j.toNat < xs.length:=hb.2.2
          obtain ⟨ad,rfl,h5,_⟩:=h4 (by omega)
          refine ⟨_,h,.pointer (some (ad.add (j.toNat * te.sz + 0))),?_,ad,_,_,h2,e,te,xs,hob,hb.1,hj,rfl⟩
          have hsz:=desc_elem ht hy w
          rw [h1,h2,int_of_V hi]
          simp [Instr.indexAt,asIntOf,run_underlying (desc_slice ht hy),hb.1,hb.2.1,hsz]
        · cases h
      · cases h
    · cases h
  · rename_i i s k fr' j hT hA hI
    have ht:=he.T _ _ hT
    rw [hA] at hv
    rw [hI] at hi
    split at h
    · rename_i e te fr xs hob
      split at h
      · rename_i hy
        rcases br_some h with ⟨hb,h⟩ | ⟨_,h⟩
        · have hb:=in_bounds hb
          obtain ⟨h1,_⟩:=hv
          obtain ⟨css,h2,h3⟩:=hs.ob _ _ hob
          have hj:j.toNat < xs.length:=hb.2.2
          rcases h2.2 with ⟨h4,h5⟩ | ⟨g,cap,cur,h4,h5,h6,_⟩
          · omega
          · refine ⟨_,h,.pointer (some ⟨g,j.toNat * te.sz + 0,none⟩),?_,g,_,_,h4,e,te,fr,xs,hob,hb.1,hj,rfl⟩
            have hsz:=desc_elem ht hy w
            rw [h1,h4,int_of_V hi]
            simp [Instr.indexAt,asIntOf,run_underlying (desc_slice ht hy),hb.1,hb.2.1,hsz,add_at']
        · cases h
      · cases h
    · cases h
  · rename_i i s off ta k fr' j hT hA hI
    have ht:=he.T _ _ hT
    rw [hA] at hv
    rw [hI] at hi
    split at h
    · rename_i n e te harr
      split at h
      · rename_i hta
        obtain ⟨g,h1,h2,h3⟩:=hv
        obtain ⟨d,g1,g2⟩:=ht.und
        have hd:d = .array n e∧∃ inf,P.info? e = some inf∧inf.size = te.sz:=by
          unfold DescOk at g2
          obtain ⟨m,rfl⟩:∃ m,n = m + 1:=⟨n - 1,by have:=hta.2.2; omega⟩
          have hp:i.ty = .pair te (arrTy m te):=hta.2.1
          simp only [hp,harr] at g2
          exact ⟨g2.1,g2.2.2.2⟩
        obtain ⟨rfl,inf,g3,g4⟩:=hd
        obtain ⟨q,hq,hjq,hk⟩:=pickK_some _ _ h
        refine ⟨_,hk,.pointer (some ⟨g,off + q * te.sz,none⟩),?_,g,h1,rfl,h3⟩
        have hq:q < n:=by omega
        rw [h2,int_of_V hi,hjq]
        have hsz:(sizeOf e).run P w = .ok te.sz w:=by simp [sizeOf,typeInfo,g3,g4]
        simp [Instr.indexAt,asIntOf,run_underlying g1,Instr.sureAddr,hsz,hq,add_at']
      · cases h
    · cases h
  · rename_i i s p off e te k fr' j hT hA hI
    have ht:=he.T _ _ hT
    rw [hA] at hv
    rw [hI] at hi
    split at h
    · rename_i bx sh t0 x0 hob
      split at h
      · rename_i xs s1 hg hsh
        split at h
        · rename_i hy
          rcases br_some h with ⟨hb,h⟩ | ⟨_,h⟩
          · have hb:=in_bounds hb
            obtain ⟨u,L,cs,L1,hbt,hin,hpc,h1,h2,h3⟩:=hs.at_vw hv hob hg hsh
            have h2':=h2
            obtain ⟨v0,rs,rfl,hr,ha,rfl⟩:=h2'
            have hj:j.toNat < List.length xs:=hb.2.2
            rcases hr.2 with ⟨_,h5⟩ | ⟨g2,cap,cur2,rfl,_,h6,h7,_⟩
            · omega
            · have hm:g2∈L:=h3 g2 (by simp [Value.ownBlock])
              refine ⟨_,h,.pointer (some ⟨g2,j.toNat * te.sz,none⟩),?_,u,L,bx,sh,t0,x0,hbt,hob,.inr ⟨hin,g2,_,?_,rfl⟩⟩
              · have hsz:=desc_elem ht hy w
                have h1:a.eval x = .slice (some ⟨g2,0,none⟩) (List.length xs) cap:=h1
                rw [h1,int_of_V hi]
                simp [Instr.indexAt,asIntOf,run_underlying (desc_slice ht hy),hb.1,hb.2.1,hsz,add_at']
              · rcases hpc with ⟨rfl,hcs⟩ | ⟨g,q,cur,e',fz,k1,k2,hcs⟩
                · refine ⟨hm,List.length xs,cap,?_,hb.1,hj,by simp⟩
                  have h8:((rootC w bx u).drop off).take (Ty.slice e te).sz = [.slice (some ⟨g2,0,none⟩) (List.length xs) cap]:=hcs.symm
                  have h9:=congrArg (fun l=>l[0]?) h8
                  simpa [List.getElem?_take,Ty.sz] using h9
                · refine PlAt_snoc hb.1 hj hm hg k1 k2 (n:=List.length xs) (c:=cap) ?_
                  have h9:=congrArg (fun l=>l[0]?) hcs.symm
                  simpa [List.getElem?_take,Ty.sz] using h9
          · cases h
        · cases h
      · cases h
    · cases h
  · cases h
theorem nil_gives (hs:Sim B okA w0 β st a w) {x:Operand} (ho:o.op = .nilCheck x) (h:compK E o st.val st.ob K' = some r)
    (hn:∀ A v w1,Grow w w1→RepA w1 (okD w1 B okA β st.ob) β st.ob A v→K' A = some r→next (a.put o.dst v) w1):o.wp P a w next Q:=by
  have hv:=hs.val x
  simp only [compK,ho] at h
  have key:∃ A v,K' A = some r∧RepA w (okD w B okA β st.ob) β st.ob A v∧(∃ ad,v = .pointer (some ad))∧a.eval x = v:=by
    split at h
    · rename_i hA; rw [hA] at hv
      obtain ⟨ad,cs,h1,h2⟩:=hv
      exact ⟨_,_,h,⟨ad,cs,h1,h2⟩,⟨ad,h1⟩,rfl⟩
    · rename_i hA; rw [hA] at hv
      obtain ⟨g,h1,h2,h3⟩:=hv
      exact ⟨_,_,h,⟨g,h1,h2,h3⟩,⟨_,h2⟩,rfl⟩
    · rename_i hA; rw [hA] at hv
      obtain ⟨g,n,c,h1,e,te,fr,xs,h3,h4,h5,h2⟩:=hv
      exact ⟨_,_,h,⟨g,n,c,h1,e,te,fr,xs,h3,h4,h5,h2⟩,⟨_,h2⟩,rfl⟩
    · rename_i hA; rw [hA] at hv
      have hp:∃ ad,a.eval x = .pointer (some ad):=by
        obtain ⟨u,L,bx,sh,t0,x0,hb,hob,hv⟩:=hv
        rcases hv with ⟨_,_,g,_,h2⟩ | ⟨hin,g,q,hpl,h2⟩
        · exact ⟨_,h2⟩
        · exact ⟨_,h2⟩
      exact ⟨_,_,h,hv,hp,rfl⟩
    · cases h
  obtain ⟨A,v,h1,h2,⟨ad,h3⟩,h4⟩:=key
  refine wp_value (v:=v) ?_ (hn A v w (Grow.refl w) h2 h1)
  simp [execOp,ho,h4,h3]
theorem nth_vals:∀ {t:Ty} {n:Nat} {q:Nat × Ty},nth t n = some q→∀ cs:List Value,(tvals t cs)[n]? = some (q.2.val ((cs.drop q.1).take q.2.sz))
  | .pair a b,0,q,h,cs=>by
    simp only [nth,Option.some.injEq] at h
    subst h
    simp [tvals]
  | .pair a b,n + 1,q,h,cs=>by
    simp only [nth] at h
    obtain ⟨q',h1,rfl⟩:=Option.map_eq_some_iff.1 h
    have:=nth_vals h1 (cs.drop a.sz)
    simp only [tvals,List.getElem?_cons_succ,this,List.drop_drop]
  | .int _,_,_,h,_=>by simp [nth] at h
  | .bool,_,_,h,_=>by simp [nth] at h
  | .str,_,_,h,_=>by simp [nth] at h
  | .unit,_,_,h,_=>by simp [nth] at h
  | .slice _ _,_,_,h,_=>by simp [nth] at h
theorem extract_gives (hs:Sim B okA w0 β st a w) {x:Operand} {n:Nat} (ho:o.op = .extract x n) (h:compK E o st.val st.ob K' = some r) :
    ∃ A,K' A = some r∧Gives P w (okD w B okA β st.ob) β st.ob (Instr.extract (a.eval x) n) A:=by
  have hv:=hs.val x
  simp only [compK,ho] at h
  split at h
  · rename_i l hA
    rw [hA] at hv
    obtain ⟨vs,h1,h2⟩:=hv
    split at h
    · rename_i d hd
      have hl:=All2.length h2
      have hlt:=(List.getElem?_eq_some_iff.1 hd).1
      have h3:=h2.get (i:=n) hd (List.getElem?_eq_getElem (by omega))
      refine ⟨_,h,vs[n],?_,V_fr h3⟩
      rw [h1]
      simp [Instr.extract,show n < vs.length by omega]
    · cases h
  · rename_i s t hA
    rw [hA] at hv
    split at h
    case h_2=>cases h
    rename_i _ _ bx sh t0 x0 q hob hq
    split at h
    case isFalse=>cases h
    rename_i ht
    subst ht
    split at h
    case h_2=>cases h
    rename_i y s1 hsub hsh
    obtain ⟨u,L,bx',sh',t1,x1,hb,hob',hin,hv⟩:=hv
    rw [hob] at hob'
    obtain ⟨rfl,_⟩:=tr_inj hob'
    have hpc:PC w L (rootC w bx u) [] q.1 q.2.sz (((rootC w bx u).drop q.1).take q.2.sz):=.inl ⟨rfl,rfl⟩
    obtain ⟨L1,k1,_⟩:=hs.place (p:=[]) hob hb hpc hsub hsh
    have hg:=nth_vals hq (rootC w bx u)
    have hlt:=(List.getElem?_eq_some_iff.1 hg).1
    refine ⟨_,h,q.2.val (((rootC w bx u).drop q.1).take q.2.sz),?_,rdA_rep k1 ⟨u,L,bx,sh,t0,x0,_,hb,hob,hin,hpc,rfl⟩⟩
    rw [hv]
    have hge:(tvals t0 (rootC w bx u))[n] = q.2.val (((rootC w bx u).drop q.1).take q.2.sz):=(List.getElem?_eq_some_iff.1 hg).2
    simp [Instr.extract,tupOf,hlt,hge]
  · cases h
theorem len_run {t:Nat} {v:Value} {n:Nat} {d:TypeDesc} (hu:P.underlying t = some d) (h:(∃ e A c,d = .slice e∧v = .slice A n c)∨∃ s,d = .string∧v = .string s∧s.size = n) (w:World):(Builtin.len_ #[t] o.type #[v]).run P w = .ok (.int .i64 n) w:=by
  rcases h with ⟨e,A,c,rfl,rfl⟩ | ⟨s,rfl,rfl,rfl⟩
  · simp [Builtin.len_,run_underlying hu,goInt]
  · simp [Builtin.len_,run_underlying hu,goInt]
theorem call_len {c:Call} {x:Operand} {t:Nat} (ho:o.op = .call c) (hc:c.callee = .builtin .len) (ha:c.args.toList = [x]) (hat:c.argTypes.toList = [t]):execOp a.eval o = (do pure (.value (← Builtin.len_ #[t] o.type #[a.eval x]))):=by
  have h1:c.args = #[x]:=by rw [← ha]
  have h2:c.argTypes = #[t]:=by rw [← hat]
  simp only [execOp,ho,resolve,hc,h1,h2]
  simp [invoke,builtin]
theorem call_min {c:Call} {x y:Operand} (ho:o.op = .call c) (hc:c.callee = .builtin .min) (ha:c.args.toList = [x,y]):execOp a.eval o = (do pure (.value (← Builtin.min_ c.argTypes o.type #[a.eval x,a.eval y]))):=by
  have h1:c.args = #[x,y]:=by rw [← ha]
  simp only [execOp,ho,resolve,hc,h1]
  simp [invoke,builtin]
theorem call_max {c:Call} {x y:Operand} (ho:o.op = .call c) (hc:c.callee = .builtin .max) (ha:c.args.toList = [x,y]):execOp a.eval o = (do pure (.value (← Builtin.max_ c.argTypes o.type #[a.eval x,a.eval y]))):=by
  have h1:c.args = #[x,y]:=by rw [← ha]
  simp only [execOp,ho,resolve,hc,h1]
  simp [invoke,builtin]
theorem min_gives (hs:Sim B okA w0 β st a w) {ts:Array TypeId} {ty:TypeId} {x y:Operand} (h:minK (st.val x) (st.val y) K' = some r) :
    ∃ A,K' A = some r∧Gives P w (okD w B okA β st.ob) β st.ob (Builtin.min_ ts ty #[a.eval x,a.eval y]) A:=by
  have hv:=hs.val x
  have hu:=hs.val y
  unfold minK at h
  split at h
  · rename_i k _ n k' _ m hA hB
    rw [hA] at hv
    rw [hB] at hu
    split at h
    · rename_i e
      subst e
      rw [int_of_V hv,int_of_V hu]
      exact ⟨_,h,_,by simp [Builtin.min_,Builtin.min2],V_int _ _⟩
    · cases h
  · cases h
theorem max_gives (hs:Sim B okA w0 β st a w) {ts:Array TypeId} {ty:TypeId} {x y:Operand} (h:maxK (st.val x) (st.val y) K' = some r) :
    ∃ A,K' A = some r∧Gives P w (okD w B okA β st.ob) β st.ob (Builtin.max_ ts ty #[a.eval x,a.eval y]) A:=by
  have hv:=hs.val x
  have hu:=hs.val y
  unfold maxK at h
  split at h
  · rename_i k _ n k' _ m hA hB
    rw [hA] at hv
    rw [hB] at hu
    split at h
    · rename_i e
      subst e
      rw [int_of_V hv,int_of_V hu]
      exact ⟨_,h,_,by simp [Builtin.max_,Builtin.max2],V_int _ _⟩
    · cases h
  · cases h
theorem len_gives (he:EnvOk P E) (hs:Sim B okA w0 β st a w) {x:Operand} {t:Nat} (h:builtinLenK E st.ob t (st.val x) K' = some r) :
    ∃ A,K' A = some r∧Gives P w (okD w B okA β st.ob) β st.ob (Builtin.len_ #[t] o.type #[a.eval x]) A:=by
  have hv:=hs.val x
  unfold builtinLenK at h
  cases hT:E.T t with
  | none=>simp [hT] at h
  | some i =>
    have ht:=he.T _ _ hT
    simp only [hT] at h
    cases hy:i.ty with
    | slice e te =>
      simp only [hy] at h
      have hu:=desc_slice ht hy
      have key:lenK st.ob (st.val x) K' = some r:=by
        revert h; split
        · intro h; cases h
        · exact id
      unfold lenK at key
      cases hA:st.val x with
      | d t1 fr1 x1 =>
        rw [hA] at hv
        cases t1 with
        | slice e1 t1 =>
          simp only [hA] at key
          obtain ⟨A,c,css,h1,_⟩:=slice_of_V hv
          exact ⟨_,key,_,len_run hu (.inl ⟨e,A,c,rfl,h1⟩) w,V_int _ _⟩
        | str=>simp [hA] at h
        | _=>simp [hA] at key
      | nil =>
        rw [hA] at hv
        simp only [hA] at key
        exact ⟨_,key,_,len_run (n:=0) hu (.inl ⟨e,none,0,rfl,hv⟩) w,V_int _ _⟩
      | own s =>
        rw [hA] at hv
        simp only [hA] at key
        obtain ⟨h1,e',te',fr',xs',h2⟩:=hv
        rw [h2] at key
        obtain ⟨css,h3,h4⟩:=hs.ob _ _ h2
        have:∃ A c,a.eval x = .slice A xs'.length c:=by
          rw [h1]
          rcases h3.2 with ⟨h5,h6⟩ | ⟨g,cap,cur,h5,_⟩
          · exact ⟨none,0,by rw [h5,h6]⟩
          · exact ⟨_,_,h5⟩
        obtain ⟨A,c,h5⟩:=this
        exact ⟨_,key,_,len_run hu (.inl ⟨e,A,c,rfl,h5⟩) w,V_int _ _⟩
      | xr =>
        rw [hA] at hv
        simp only [hA] at key
        obtain ⟨h1,e',te',xs',h2⟩:=hv
        rw [h2] at key
        obtain ⟨_,A,c,css,h3,_⟩:=hs.ob _ _ h2
        exact ⟨_,key,_,len_run hu (.inl ⟨e,A,c,rfl,h1.trans h3⟩) w,V_int _ _⟩
      | vw s p off t1 =>
        rw [hA] at hv
        cases t1 with
        | slice e1 t1 =>
          simp only [hA] at key
          split at key
          · rename_i bx sh t0 x0 hob
            split at key
            · rename_i xs s1 hg hsh
              obtain ⟨u,L,cs,L1,_,_,_,h1,h2,_⟩:=hs.at_vw hv hob hg hsh
              obtain ⟨v0,rs,rfl,hr,_,_⟩:=h2
              have h1:a.eval x = v0:=h1
              have:∃ A c,a.eval x = .slice A (List.length xs) c:=by
                rw [h1]
                rcases hr.2 with ⟨h5,h6⟩ | ⟨g,cap,cur,h5,_⟩
                · exact ⟨none,0,by rw [h5,h6]⟩
                · exact ⟨_,_,h5⟩
              obtain ⟨A,c,h5⟩:=this
              exact ⟨_,key,_,len_run hu (.inl ⟨e,A,c,rfl,h5⟩) w,V_int _ _⟩
            · cases key
          · cases key
        | _=>simp [hA] at key
      | lin t1 x1 =>
        rw [hA] at hv
        cases t1 with
        | slice e1 t1 =>
          simp only [hA] at key
          obtain ⟨A,c,css,h1,_⟩:=VL_slice hv
          exact ⟨_,key,_,len_run hu (.inl ⟨e,A,c,rfl,h1⟩) w,V_int _ _⟩
        | _=>simp [hA] at key
      | _=>simp [hA] at key
    | str =>
      simp only [hy] at h
      split at h
      · rename_i fr v hA
        rw [hA] at hv
        exact ⟨_,h,_,len_run (desc_str ht hy) (.inr ⟨v,rfl,str_of_V hv,rfl⟩) w,V_int _ _⟩
      · cases h
    | _=>simp [hy] at h
theorem conv_gives (he:EnvOk P E) (hs:Sim B okA w0 β st a w) {s t:Nat} {x:Operand} (ho:o.op = .convert s t x) (h:compK E o st.val st.ob K' = some r) :
    ∃ A,K' A = some r∧Gives P w (okD w B okA β st.ob) β st.ob (convert s t (a.eval x)) A:=by
  have hv:=hs.val x
  simp only [compK,ho] at h
  split at h
  · rename_i j i k fr n hS hT hA
    rw [hA] at hv
    rw [int_of_V hv]
    split at h
    · rename_i k' hy
      obtain ⟨ds,h1,_⟩:=(he.T _ _ hS).und
      exact ⟨_,h,_,by simp [convert,run_underlying h1,run_underlying (desc_int (he.T _ _ hT) hy),Conv.intToInt],V_int _ _⟩
    · cases h
  · rename_i j i fr v hS hT hA
    rw [hA] at hv
    rw [str_of_V hv]
    split at h
    · rename_i hy
      obtain ⟨ds,h1,_⟩:=(he.T _ _ hS).und
      exact ⟨_,h,_,by simp [convert,run_underlying h1,run_underlying (desc_str (he.T _ _ hT) hy)],V_str _⟩
    · cases h
  · rename_i j i e fr xs hS hT hA
    rw [hA] at hv
    obtain ⟨A,c,css,h1,h2,h3,h4,h5⟩:=slice_of_V hv
    split at h
    · rename_i hj
      split at h
      · rename_i hy
        refine ⟨_,h,_,?_,V_str _⟩
        obtain ⟨ie,hT2,hy2⟩:=Option.map_eq_some_iff.1 hj.2
        rw [h1,run_convert_bytes_string w s t e A xs.length c (desc_slice (he.T _ _ hS) hj.1) (desc_int (he.T _ _ hT2) hy2) (desc_str (he.T _ _ hT) hy)]
        cases A with
        | none =>
          have h0:xs = []:=by
            cases xs with
            | nil=>rfl
            | cons x r=>obtain ⟨ad,h6,_⟩:=h5 (by simp); cases h6
          subst h0
          rfl
        | some ad =>
          have h6:css.flatten = xs.map (Value.int .u8):=flat_ints h4
          refine run_bytesToString w ad xs.length c xs ?_
          by_cases hp:0 < xs.length
          · obtain ⟨ad',h7,_,_,h8⟩:=h5 hp
            injection h7 with h7
            subst h7
            have h9:=run_loadCells_list (P:=P) w ad (xs.map (Value.int .u8)) (by rw [← h6]; exact h8)
            simpa using h9
          · have h0:xs = []:=List.eq_nil_of_length_eq_zero (by omega)
            subst h0
            rfl
      · cases h
    · cases h
  · cases h
theorem in_le {j:Int} {n:Nat} (h:(decide (0≤j) && decide (j≤(n:Int))) = true):0≤j∧j≤(n:Int)∧j.toNat≤n:=by
  rw [Bool.and_eq_true] at h
  have h1:=of_decide_eq_true h.1
  have h2:=of_decide_eq_true h.2
  omega
theorem bnd_run {ob:List (Option Ob)} {G:Bool→Nat→Prop} {A:A} {v:Value} {top:Nat} {F:Nat→Option ρ} (h:bndK A top F = some r) (hv:RepA w G β ob A v):∃ n:Nat,F n = some r∧n≤top∧∀ code,(Instr.sliceBound v top code).run P w = .ok n w:=by
  unfold bndK at h
  split at h
  · rename_i k fr i
    rcases br_some h with ⟨hb,h⟩ | ⟨_,h⟩
    · have hb:=in_le hb
      refine ⟨_,h,hb.2.2,fun code=>?_⟩
      rw [int_of_V hv]
      simp [Instr.sliceBound,asIntOf,hb.1,hb.2.1]
    · cases h
  · cases h
/-- The two bounds of a cut. -/
theorem bnds_run (hs:Sim B okA w0 β st a w) {lo hi:Option Operand} {top cap:Nat} (hcap:top≤cap) {F:Nat→Nat→Option ρ} {sl:Bool}
    (h:(match hi with | some h=>bndK (st.val h) top | none=>fun K'=>K' top) (fun h=>(match lo with | some l=>bndK (st.val l) h | none=>fun K'=>K' 0) fun l=>F h l) = some r) :
    ∃ h l:Nat,F h l = some r∧l≤h∧h≤top∧(Instr.sliceBounds sl top cap (lo.map a.eval) (hi.map a.eval) none).run P w = .ok (l,h,cap) w:=by
  have key:∃ h:Nat,(match lo with | some l=>bndK (st.val l) h | none=>fun K'=>K' 0) (fun l=>F h l) = some r∧h≤top∧∀ code,(match hi.map a.eval with | some v=>Instr.sliceBound v cap code | none=>pure top).run P w = .ok h w:=by
    cases hi with
    | none=>exact ⟨top,h,Nat.le_refl _,fun _=>rfl⟩
    | some x =>
      unfold bndK at h
      simp only at h
      split at h
      · rename_i k fr i hA
        have hv:=hs.val x
        rw [hA] at hv
        rcases br_some h with ⟨hb,h⟩ | ⟨_,h⟩
        · have hb:=in_le hb
          have h3:i≤(cap:Int):=Int.le_trans hb.2.1 (by omega)
          refine ⟨_,h,hb.2.2,fun code=>?_⟩
          simp only [Option.map_some,int_of_V hv]
          simp [Instr.sliceBound,asIntOf,hb.1,h3]
        · cases h
      · cases h
  obtain ⟨h',h1,h2,h3⟩:=key
  have key2:∃ l:Nat,F h' l = some r∧l≤h'∧∀ code,(match lo.map a.eval with | some v=>Instr.sliceBound v h' code | none=>pure 0).run P w = .ok l w:=by
    cases lo with
    | none=>exact ⟨0,h1,Nat.zero_le _,fun _=>rfl⟩
    | some x =>
      obtain ⟨n,h4,h5,h6⟩:=bnd_run (P:=P) h1 (hs.val x)
      exact ⟨n,h4,h5,h6⟩
  obtain ⟨l,h4,h5,h6⟩:=key2
  refine ⟨h',l,h4,h5,h2,?_⟩
  have h3':=h3 (if sl then .sliceAcap else .sliceAlen)
  have h6':=h6 .sliceB
  cases hi <;> cases lo <;> simp only [Option.map_some,Option.map_none] at h3' h6' ⊢ <;> simp [Instr.sliceBounds,h3',h6'] <;> simp_all
theorem slice_gives (he:EnvOk P E) (hs:Sim B okA w0 β st a w) {t:Nat} {x:Operand} {lo hi mx:Option Operand} (ho:o.op = .slice t x lo hi mx) (h:compK E o st.val st.ob K' = some r) :
    ∃ A,K' A = some r∧Gives P w (okD w B okA β st.ob) β st.ob (Instr.sliceAt t (a.eval x) (lo.map a.eval) (hi.map a.eval) (mx.map a.eval)) A:=by
  have hv:=hs.val x
  simp only [compK,ho] at h
  cases mx with
  | some m=>simp at h
  | none =>
    simp only at h
    split at h
    · rename_i i fr v hT hA
      rw [hA] at hv
      split at h
      · rename_i hy
        obtain ⟨h',l,h1,h2,h3,h4⟩:=bnds_run (P:=P) hs (cap:=v.size) (Nat.le_refl _) (sl:=false) h
        refine ⟨_,h1,_,?_,V_str _⟩
        rw [str_of_V hv]
        have hu:=desc_str (he.T _ _ hT) hy
        simp [Instr.sliceAt,Instr.slice,run_underlying hu,h4]
      · cases h
    · rename_i i e te fr xs hT hA
      rw [hA] at hv
      split at h
      · rename_i hy
        obtain ⟨A,c,css,g1,g2,g3,g4,g5⟩:=slice_of_V hv
        obtain ⟨h',l,h1,h2,h3,h4⟩:=bnds_run (P:=P) hs (cap:=c) g2 (sl:=true) h
        have hu:=desc_slice (he.T _ _ hT) hy
        have hz:=desc_elem (he.T _ _ hT) hy w
        have hlen:((xs.take h').drop l).length = h' - l:=by simp; omega
        refine ⟨_,h1,.slice (if c = l then A else A.map (·.add (l * te.sz))) (h' - l) (c - l),?_,[.slice (if c = l then A else A.map (·.add (l * te.sz))) (h' - l) (c - l)],⟨_,_,(css.take h').drop l,by rw [hlen],?_,?_,(g4.take h').drop l,?_⟩,rfl⟩
        · rw [g1]
          simp [Instr.sliceAt,Instr.slice,run_underlying hu,h4,hz]
        · omega
        · rw [hlen]; omega
        · intro hp
          obtain ⟨ad,rfl,g6,g7,g8⟩:=g5 (by omega)
          have hne:¬ c = l:=by omega
          refine ⟨ad.add (l * te.sz),by simp [hne],by rw [add_block]; exact g6,by rw [add_block]; exact g7,?_⟩
          have h5:=flat_len g4
          have h6:(css.take h').flatten = css.flatten.take (h' * te.sz):=by
            have h7:=flat_drop h5 h'
            have h8:=List.take_append_drop (h' * te.sz) css.flatten
            have h9:(css.take h').flatten ++ (css.drop h').flatten = css.flatten:=by rw [← List.flatten_append,List.take_append_drop]
            have h10:(css.take h').flatten.length = h' * te.sz:=by
              rw [flat_length (fun c hc=>h5 c (List.mem_of_mem_take hc)),List.length_take,← g4.length,Nat.min_eq_left h3]
            rw [← h9,← h10]; simp
          rw [← flat_drop (fun c hc=>h5 c (List.mem_of_mem_take hc)),h6]
          exact ((g8.take _).drop _)
      · cases h
    · cases h
theorem field_gives (he:EnvOk P E) (hs:Sim B okA w0 β st a w) {s f:Nat} {x:Operand} (ho:o.op = .field s x f) (h:compK E o st.val st.ob K' = some r) :
    ∃ A,K' A = some r∧Gives P w (okD w B okA β st.ob) β st.ob (Instr.field s (a.eval x) f) A:=by
  have hv:=hs.val x
  simp only [compK,ho] at h
  cases hT:E.T s with
  | none=>simp [hT] at h
  | some i =>
    have ht:=he.T _ _ hT
    simp only [hT] at h
    cases hf:i.flds[f]? with
    | none=>simp [hf] at h
    | some p =>
      obtain ⟨off,ft⟩:=p
      simp only [hf] at h
      split at h
      · rename_i t fr v hA
        rw [hA] at hv
        split at h
        · rename_i hti
          split at h
          · rename_i y hy
            obtain ⟨cs,h1,h2⟩:=hv
            have h6:=sub_K hy h1
            refine ⟨_,h,_,?_,V_fr (V_of h6)⟩
            obtain ⟨d,g1,g2⟩:=ht.und
            have:∃ fs,d = .struct fs∧i.ty.agg = true∧∃ fld,fs[f]? = some fld∧fld.offset = off∧(∃ inf,P.info? fld.type = some inf∧inf.size = ft.sz)∧(∃ d',P.underlying fld.type = some d'∧(match d' with | .struct _ | .array _ _=>true | _=>false) = ft.agg):=by
              unfold DescOk at g2
              cases hy:i.ty <;> simp only [hy] at g2
              all_goals first
                | (rw [g2.2] at hf; simp at hf; done)
                | (rw [g2.2.1] at hf; simp at hf; done)
                | (cases ha:i.arr with
                   | none =>
                     simp only [ha] at g2
                     obtain ⟨fs,rfl,_,h3⟩:=g2
                     obtain ⟨fld,h4,h5,h6,h7,h8⟩:=h3 f off ft hf
                     exact ⟨fs,rfl,rfl,fld,h4,h5,h6,h8⟩
                   | some q =>
                     simp only [ha] at g2
                     rw [g2.2.1] at hf; simp at hf)
            obtain ⟨fs,rfl,g3,fld,g4,rfl,⟨inf,g5,g6⟩,d',g7,g8⟩:=this
            have hval:a.eval x = .agg cs.toArray:=by rw [h2]; unfold Ty.val; rw [← hti,g3]; rfl
            have hagg:(isAgg fld.type).run P w = .ok ft.agg w:=by
              unfold isAgg
              rw [Sem.run_bind,run_underlying g7 w,← g8]
              cases d' <;> simp
            rw [hval]
            cases ha:ft.agg
            · obtain ⟨u,hu⟩:=headD_of (K_len h6) ha
              have hc:cs[fld.offset]? = some u:=by
                have:((cs.drop fld.offset).take ft.sz)[0]? = some u:=by rw [hu]; rfl
                rw [List.getElem?_take] at this
                split at this
                · simpa using this
                · cases this
              simp [Instr.field,run_underlying g1,g4,asAgg,part,hagg,ha,hc,Ty.val,hu]
            · simp [Instr.field,run_underlying g1,g4,asAgg,part,hagg,ha,Ty.val,sizeOf,typeInfo,g5,g6,List.extract_eq_take_drop]
          · cases h
        · cases h
      · cases h
theorem dts_V (he:EnvOk P E) (hs:Sim B okA w0 β st a w):∀ {ts:List Nat} {xs:List Operand} {ds:List Dt},dts E ts (xs.map st.val) = some ds→All2 (fun d v=>V w (okD w B okA β st.ob false) d.t d.x v) ds (xs.map a.eval)
  | [],[],ds,h=>by simp [dts] at h; subst h; trivial
  | t :: ts,x :: xs,ds,h=>by
    simp only [List.map_cons,dts] at h
    obtain ⟨d,h1,h2⟩:=Option.bind_eq_some_iff.1 h
    obtain ⟨ds',h3,rfl⟩:=Option.map_eq_some_iff.1 h2
    refine ⟨?_,dts_V he hs h3⟩
    have hv:=hs.val x
    unfold dtOf at h1
    split at h1
    · rename_i _ _ t1 fr x1 i hA hT
      rw [hA] at hv
      split at h1
      · injection h1 with h1; subst h1
        exact V_step (fun k hk hlt=>⟨⟨hk.1,hk.2.1,fun h=>by cases h⟩,hlt,rfl⟩) hv
      · cases h1
    · rename_i _ _ i hA hT
      rw [hA] at hv
      split at h1
      · injection h1 with h1; subst h1
        refine ⟨[.slice none 0 0],⟨none,0,[],rfl,Nat.le_refl _,Nat.zero_le _,trivial,fun h=>by simp at h⟩,hv⟩
      · cases h1
    · rename_i _ _ c1 t1 x1 i hA hT
      rw [hA] at hv
      split at h1
      · injection h1 with h1; subst h1
        exact V_step (fun k hk hlt=>⟨hk.2,hlt,rfl⟩) hv
      · cases h1
    · cases h1
  | [],_ :: _,_,h=>by simp [dts] at h
  | _ :: _,[],_,h=>by simp [dts] at h
theorem split_fr (fr:Bool):∀ (t:Ty) (x:t.T),∀ d∈split fr t x,d.fr = fr
  | .pair a b,x,d,hd=>by
    simp only [split,List.mem_cons] at hd
    rcases hd with rfl | hd
    · rfl
    · exact split_fr fr b x.2 d hd
  | .int _,_,d,hd=>by simp [split] at hd
  | .bool,_,d,hd=>by simp [split] at hd
  | .str,_,d,hd=>by simp [split] at hd
  | .slice _ _,_,d,hd=>by simp [split] at hd
  | .unit,_,d,hd=>by simp [split] at hd
theorem All2.imp_mem {α β:Type} {R S:α→β→Prop}:∀ {xs:List α} {ys:List β},(∀ x∈xs,∀ y,R x y→S x y)→All2 R xs ys→All2 S xs ys
  | [],[],_,_=>trivial
  | _ :: _,_ :: _,h,hh=>⟨h _ (by simp) _ hh.1,All2.imp_mem (fun x hx y=>h x (by simp [hx]) y) hh.2⟩
theorem call_sound (he:EnvOk P E) (hs:Sim B okA w0 β st a w) {c:Call} {f:FuncId} (ho:o.op = .call c) (hc:c.callee = .value (.func f)) (h:callK E f c.argTypes.toList (c.args.toList.map st.val) K' = some r)
    (hn:∀ A v w1,Grow w w1→RepA w1 (okD w1 B okA β st.ob) β st.ob A v→K' A = some r→next (a.put o.dst v) w1):o.wp P a w next Q:=by
  unfold callK at h
  split at h
  · rename_i ds hds
    split at h
    · rename_i cr hcr
      obtain ⟨y,h1,h2⟩:=Option.bind_eq_some_iff.1 h
      have hok:=he.C _ _ _ hcr
      obtain ⟨fn,g1,g2,g3⟩:=hok.fn
      have hargs:=dts_V he hs hds
      have hcall:=hok.goes y h1 w (fun k=>okD w B okA β st.ob false k∧k < w.heap.size) (c.args.toList.map a.eval) (fun k hk=>hk.2) (hargs.imp (fun d v hv=>V_step (fun k hk hlt=>⟨⟨hk,hlt⟩,hlt,rfl⟩) hv))
      have hrun:(execOp a.eval o).run P w = .ok (.enter f (c.args.toList.map a.eval).toArray) w:=by
        have h3:(c.args.toList.map a.eval).toArray = c.args.map a.eval:=by
          apply Array.ext'; simp
        rw [h3]
        simp [execOp,ho,resolve,hc,Act.eval,Deferred.ofValue,invoke,callFunc,program,Sem.run,g1,g2,g3]
      unfold Oper.wp
      rw [hrun]
      show Calls P f _ w _
      refine hcall.mono ?_
      rintro e w1 ⟨v,rfl,hv,_,hg⟩
      refine hn (retA cr.one cr.t cr.fr y) v w1 hg ?_ h2
      have hm:∀ fr:Bool,(fr = true→cr.fr = true)→∀ k,((okD w B okA β st.ob false k∧k < w.heap.size)∨w.heap.size≤k)∧(cr.fr = true→w.heap.size≤k∧Plain w1 k)→okD w1 B okA β st.ob fr k:=by
        intro fr hfr k ⟨hk,hk2⟩
        have hsz:=hs.size
        refine ⟨?_,?_,fun h=>⟨by have:=(hk2 (hfr h)).1; omega,(hk2 (hfr h)).2⟩⟩
        · rcases hk with ⟨hk,_⟩ | hk
          · exact hk.1
          · exact .inr (by omega)
        · rcases hk with ⟨hk,_⟩ | hk
          · exact hk.2.1
          · exact fun ho=>by have:=(hs.ow_lt ho).2; omega
      unfold retA
      unfold RetV at hv
      cases hone:cr.one
      · simp only [hone,Bool.false_eq_true,if_false] at hv ⊢
        obtain ⟨vs,h4,h5⟩:=hv
        exact ⟨vs,h4,h5.imp_mem (fun d hd u hu=>V_step (fun k hk hlt=>⟨hm d.fr (fun h=>by rw [split_fr _ _ _ d hd] at h; exact h) k hk,hlt,rfl⟩) hu)⟩
      · simp only [hone,if_true] at hv ⊢
        exact V_fr (V_step (fun k hk hlt=>⟨hm cr.fr id k hk,hlt,rfl⟩) hv)
    · cases h
  · cases h
end
end Go.Fil
