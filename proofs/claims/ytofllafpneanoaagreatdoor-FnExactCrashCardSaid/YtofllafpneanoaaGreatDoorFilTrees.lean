/- FilTrees. -/
import Derived.Test.YtofllafpneanoaaGreatDoorFilZ
/- Rows of trees that grow. -/
set_option linter.unusedSectionVars false
namespace Go.Fil
open Go.RowKit
set_option linter.unusedVariables false
set_option linter.unusedSimpArgs false
section
variable [Lin] {P:Program} {E:Env} {o:Oper} {a:Act} {w:World} {next:Act→World→Prop} {Q:Exit→Act→World→Prop} {B:Nat} {okA:Nat→Prop} {w0:World} {β:Nat→Value} {st:St} {ρ:Type} {r:ρ}
theorem Sim.tr_append (hs:Sim B okA w0 β st a w) {s e:Nat} {te:Ty} {sh:Sh} {xs:List te.T} (hob:St.obj st.ob s = some (.tr false (.ow sh) (.slice e te) xs)) {u:Value} {L:List Nat} (hb:β s = tupV u L) (hs0:s≠0)
  {ys:List te.T} {rs2:List (List Value × List Nat)} (hy:All2 (fun x r=>KS w (okD w B okA β st.ob false) sh te x r.1 r.2) ys rs2) (hn2:(rs2.map Prod.snd).flatten.Nodup)
  (zs:Option Nat) (hz:match zs with | none=>(rs2.map Prod.snd).flatten = [] | some z=>z≠s∧∃ o,St.obj st.ob z = some o∧(∃ shz tz xz,o = .tr false shz tz xz)∧∀ k∈(rs2.map Prod.snd).flatten,owns (β z) k) :
  ∃ rs1:List (List Value × List Nat),w.ownsRow 0 e te.sz u xs.length (rs1.map Prod.fst).flatten ∧
   ∀ {w1:World} {v1:Value},w1.ownsRow 0 e te.sz v1 (xs.length + ys.length) ((rs1.map Prod.fst).flatten ++ (rs2.map Prod.fst).flatten)→w.grownBy w1 u.ownBlock→(v1.ownBlock = u.ownBlock∨v1.ownBlock = some w.heap.size)→∀ dst:Nat,
    ∃ β',Sim B okA w0 β' ⟨(killD (s :: zs.toList) st.tm).set dst (.vw s [] 0 (.slice e te)),(match zs with | none=>st.ob | some z=>st.ob.set z none).set s (some (.tr false (.ow sh) (.slice e te) (xs ++ ys:List te.T)))⟩ (a.put (some dst) v1) w1:=by
 obtain ⟨rc,Lr,hr⟩:=hs.root hob hb
 obtain ⟨hu,rfl⟩:=hr.val rfl
 obtain ⟨v0,rs1,hrc,hrow,hel,hL⟩:=hr.ks
 have hu:u = v0:=by rw [hu,hrc]; rfl
 subst hu
 refine ⟨rs1,hrow,?_⟩
 intro w1 v1 hown hg hat dst
 have hlt:=lt_of_obj hob
 have hnd:=hr.nd
 rw [hL] at hnd
 -- the new blocks
 have hLs1:∀ k∈(rs1.map Prod.snd).flatten,k∈L:=fun k hk=>by rw [hL]; simp [hk]
 have hub:∀ k,u.ownBlock = some k→k∈L:=fun k hk=>by rw [hL]; simp [hk]
 have hdis:∀ k∈(rs2.map Prod.snd).flatten,k∉L:=by
  intro k hk hkL
  cases zs with
  | none=>rw [show (rs2.map Prod.snd).flatten = [] from hz] at hk; simp at hk
  | some z =>
   obtain ⟨hne,o',ho',_,hown'⟩:=hz
   exact hne (hs.apart z s _ _ k ho' hob (hown' k hk) (by rw [hb]; exact owns_tup.2 hkL))
 have hlt2:∀ k∈(rs2.map Prod.snd).flatten,k < w.heap.size:=by
  intro k hk
  obtain ⟨l,hl,hk⟩:=List.mem_flatten.1 hk
  obtain ⟨q,hq,rfl⟩:=List.mem_map.1 hl
  obtain ⟨x,_,hx⟩:=hy.mem q hq
  exact (KS_lt hx k hk).1
 have hlt1:∀ k∈L,k < w.heap.size:=fun k hk=>((hs.ob s _ hob).lt (by rw [hb]; exact owns_tup.2 hk)).2
 have hsame:∀ k,k < w.heap.size→u.ownBlock≠some k→w1.heap[k]? = w.heap[k]?:=fun k hk hne=>hg.block k hk (fun h=>hne h.symm)
 have hzo:∀ z,zs = some z→z≠s∧∃ o,St.obj st.ob z = some o∧(∃ shz tz xz,o = .tr false shz tz xz)∧∀ k∈(rs2.map Prod.snd).flatten,owns (β z) k:=by
  rintro z rfl; exact hz
 have hO:∀ i,St.obj ((match zs with | none=>st.ob | some z=>st.ob.set z none).set s (some (.tr false (.ow sh) (.slice e te) (xs ++ ys:List te.T)))) i = if s = i then some (.tr false (.ow sh) (.slice e te) (xs ++ ys:List te.T)) else if zs = some i then none else St.obj st.ob i:=by
  intro i
  rw [obj_set]
  cases zs with
  | none=>by_cases e1:s = i <;> simp [e1,hlt] <;> (intro h; omega)
  | some z =>
   have hzl:=lt_of_obj (hzo z rfl).2.choose_spec.1
   by_cases e1:s = i
   ·subst e1; simp [hlt]
   ·simp only [e1,false_and,if_false]
    rw [obj_set]
    by_cases e2:z = i
    ·subst e2; simp [hzl]
    ·simp [e2]
 -- the new tree's blocks
 obtain ⟨L',hL'⟩:∃ L',L' = v1.ownBlock.toList ++ ((rs1 ++ rs2).map Prod.snd).flatten:=⟨_,rfl⟩
 have hmem:∀ k∈L',w.heap.size≤k∨k∈L∨k∈(rs2.map Prod.snd).flatten:=by
  intro k hk
  rw [hL'] at hk
  simp only [List.map_append,List.flatten_append,List.mem_append] at hk
  rcases hk with hk | hk | hk
  ·rcases hat with h | h
   ·rw [h] at hk; exact .inr (.inl (by rw [hL]; simp only [List.mem_append]; exact .inl hk))
   ·rw [h] at hk; simp at hk; exact .inl (by omega)
  ·exact .inr (.inl (hLs1 k hk))
  ·exact .inr (.inr hk)
 have hnd':L'.Nodup:=by
  rw [hL']
  rw [List.nodup_append] at hnd ⊢
  obtain ⟨n1,n2,n3⟩:=hnd
  refine ⟨?_,?_,?_⟩
  ·cases v1.ownBlock <;> simp
  ·simp only [List.map_append,List.flatten_append]
   rw [List.nodup_append]
   refine ⟨n2,hn2,fun a ha b hb' e'=>?_⟩
   subst e'
   exact hdis a hb' (hLs1 a ha)
  ·intro a ha b hb' e'
   subst e'
   simp only [List.map_append,List.flatten_append,List.mem_append] at hb'
   rcases hat with h | h
   ·rw [h] at ha
    rcases hb' with hb' | hb'
    ·exact n3 a ha a hb' rfl
    ·exact hdis a hb' (by rw [hL]; simp only [List.mem_append]; exact .inl ha)
   ·rw [h] at ha
    simp at ha
    rcases hb' with hb' | hb'
    ·have:=hlt1 a (hLs1 a hb'); omega
    ·have:=hlt2 a hb'; omega
 refine ⟨upd β s (tupV v1 L'),hs.change (fun i=>i = s∨zs = some i) ⟨hg.os,hg.tape,hg.output,hg.size,fun k hk hnk=>hg.block k hk (fun h=>hnk ⟨s,_,.inl rfl,hob,by rw [hb]; exact owns_tup.2 (hub k h.symm)⟩)⟩ (by simp [Act.put,killD,hs.len]) (by simpa [Act.put] using hs.defers) ?_ ?_ ?_ ?_ ?_ ?_ ?_ ?_⟩
 ·intro i hi
  have e1:s≠i:=fun e=>hi (.inl e.symm)
  have e2:zs≠some i:=fun e=>hi (.inr e)
  exact ⟨by rw [hO,if_neg e1,if_neg e2],by simp [upd,Ne.symm e1]⟩
 ·rintro i o' (rfl | hi) ho' e1 t1 xs1 rfl
  ·rw [hob] at ho'; cases ho'
  ·obtain ⟨_,o2,h5,h6,_⟩:=hzo i hi
   rw [h5] at ho'
   injection ho' with ho'
   subst ho'
   obtain ⟨_,_,_,h6⟩:=h6
   cases h6
 ·rintro i o' hi ho' e1 t1 xs1 rfl
  rw [hO] at ho'
  by_cases e2:s = i
  ·rw [if_pos e2] at ho'; cases ho'
  ·rw [if_neg e2] at ho'
   rcases hi with hi | hi
   ·exact e2 hi.symm
   ·rw [if_pos hi] at ho'; cases ho'
 ·intro i o' k hi ho' hk
  rw [hO] at ho'
  by_cases e1:s = i
  ·subst e1
   simp only [upd,if_true] at hk
   rcases hmem k (owns_tup.1 hk) with h5 | h5 | h5
   ·exact .inl h5
   ·exact .inr ⟨s,_,.inl rfl,hob,by rw [hb]; exact owns_tup.2 h5⟩
   ·cases zs with
    | none=>rw [show (rs2.map Prod.snd).flatten = [] from hz] at h5; simp at h5
    | some z =>
     obtain ⟨_,o2,h6,_,h7⟩:=hzo z rfl
     exact .inr ⟨z,o2,.inr rfl,h6,h7 k h5⟩
  ·rw [if_neg e1] at ho'
   rcases hi with hi | hi
   ·exact absurd hi.symm e1
   ·rw [if_pos hi] at ho'; cases ho'
 ·intro i i' o1 o2 k hi hi' h5 h6 _ _
  rw [hO] at h5 h6
  have key:∀ {i:Nat} {o1:Ob},(i = s∨zs = some i)→(if s = i then some (.tr false (.ow sh) (.slice e te) (xs ++ ys:List te.T)) else if zs = some i then none else St.obj st.ob i) = some o1→i = s:=by
   intro i o1 hi h5
   by_cases e1:s = i
   ·exact e1.symm
   ·rw [if_neg e1] at h5
    rcases hi with hi | hi
    ·exact hi
    ·rw [if_pos hi] at h5; cases h5
  rw [key hi h5,key hi' h6]
 ·intro hmv i o' hi ho'
  rw [hO] at ho'
  by_cases e1:s = i
  ·subst e1
   simp only [if_true,Option.some.injEq] at ho'
   subst ho'
   simp only [upd,if_true]
   refine RepO_tr ?_ hnd' ?_
   ·unfold TrIs
    rw [if_neg (by simp)]
    refine ⟨[v1],rfl,v1,rs1 ++ rs2,rfl,?_,?_,hL'⟩
    ·rw [List.map_append,List.flatten_append,List.length_append]; exact hown
    ·have hstep:∀ {zs':List te.T} {qs:List (List Value × List Nat)},(∀ q∈qs,∀ k∈q.2,w1.heap[k]? = w.heap[k]?)→All2 (fun x r=>KS w (okD w B okA β st.ob false) sh te x r.1 r.2) zs' qs→All2 (fun x r=>KS w1 (okD w1 B okA (upd β s (tupV v1 L')) ((match zs with | none=>st.ob | some z=>st.ob.set z none).set s (some (.tr false (.ow sh) (.slice e te) (xs ++ ys:List te.T)))) false) sh te x r.1 r.2) zs' qs:=by
      intro zs' qs hq hh
      exact All2.imp_ys (fun x q hq' hx=>KS_step (fun k hk hlt'=>hmv false k hk hlt') (hq q hq') hx) hh
     have hb1:∀ q∈rs1,∀ k∈q.2,w1.heap[k]? = w.heap[k]?:=by
      intro q hq k hk
      have hkf:k∈(rs1.map Prod.snd).flatten:=List.mem_flatten.2 ⟨q.2,List.mem_map.2 ⟨q,hq,rfl⟩,hk⟩
      refine hsame k (hlt1 k (hLs1 k hkf)) (fun h=>?_)
      rw [List.nodup_append] at hnd
      exact hnd.2.2 k (by simp [h]) k hkf rfl
     have hb2:∀ q∈rs2,∀ k∈q.2,w1.heap[k]? = w.heap[k]?:=by
      intro q hq k hk
      have hkf:k∈(rs2.map Prod.snd).flatten:=List.mem_flatten.2 ⟨q.2,List.mem_map.2 ⟨q,hq,rfl⟩,hk⟩
      exact hsame k (hlt2 k hkf) (fun h=>hdis k hkf (hub k h))
     exact All2.append (hstep hb1 hel) (hstep hb2 hy)
   ·intro k hk
    rcases hmem k hk with h5 | h5 | h5
    ·exact .inl (Nat.le_trans hs.size h5)
    ·exact ((hs.ob s _ hob).lt (by rw [hb]; exact owns_tup.2 h5)).1
    ·cases zs with
     | none=>rw [show (rs2.map Prod.snd).flatten = [] from hz] at h5; simp at h5
     | some z =>
      obtain ⟨_,o2,h6,_,h7⟩:=hzo z rfl
      exact ((hs.ob z _ h6).lt (h7 k h5)).1
  ·rw [if_neg e1] at ho'
   rcases hi with hi | hi
   ·exact absurd hi.symm e1
   ·rw [if_pos hi] at ho'; cases ho'
 ·intro hmv i A' hA'
  simp only [Act.put]
  rw [getD_set]
  rw [List.getElem?_set] at hA'
  by_cases e1:dst = i
  ·subst e1
   by_cases hd:dst < (killD (s :: zs.toList) st.tm).length
   ·simp only [hd,if_true,Option.some.injEq] at hA'
    subst hA'
    have:dst < a.tmps.size:=by rw [hs.len]; simpa [killD] using hd
    simp only [this,true_and,and_self,if_true]
    refine .inl ⟨v1,L',false,.ow sh,.slice e te,_,[v1],by simp [upd],by rw [hO,if_pos rfl],(fun h=>by cases h),.inl ⟨rfl,?_⟩,rfl⟩
    have h1:v1.oneCell' = true:=row_one hown
    have h2:rootC w1 false v1 = [v1]:=by
     simp only [rootC,Bool.false_eq_true,if_false]
     exact val_cells (t:=.slice e te) (cs:=[v1]) rfl (by simpa using h1)
    rw [h2]; rfl
   ·simp [hd] at hA'
  ·simp only [e1,if_false] at hA'
   simp only [e1,false_and,if_false]
   rcases killD_get hA' with rfl | ⟨hA',hd⟩
   ·exact .inl trivial
   ·have hrep:=hs.tm i A' hA'
    by_cases hsite:∃ s',A'.site = some s'∧(s' = s∨zs = some s')
    ·exfalso
     obtain ⟨s',hs1,hs2⟩:=hsite
     rcases hs2 with rfl | hs2
     ·obtain ⟨off',t'',u',L'',g',_,hbx,_⟩:=kill_rep hob hrep hs1 (hd s' (by simp))
      cases hbx
     ·obtain ⟨hne,o2,h6,h7,_⟩:=hzo s' hs2
      obtain ⟨shz,tz,xz,rfl⟩:=h7
      obtain ⟨off',t'',u',L'',g',_,hbx,_⟩:=kill_rep h6 hrep hs1 (hd s' (by simp [hs2]))
      cases hbx
    ·exact .inr ⟨hrep,fun s' hs1 hs2=>hsite ⟨s',hs1,hs2⟩⟩
 ·intro h0 hz bx3 sh3 t3 x3 h1
  rw [hO,if_neg hs0] at h1
  rcases hz with hz | hz
  ·exact absurd hz.symm hs0
  ·rw [if_pos hz] at h1; cases h1
theorem run_append_rows {t e n m:Nat} {te:Ty} {ie:TI} {ty:TypeId} (hu:P.underlying t = some (.slice e)) (hte:TGood P e ie) (hie:ie.ty = te) (hpos:0 < te.sz) {u:Value} {cs1:List Value} (g6:w.ownsRow 0 e te.sz u n cs1)
  {A:Option Addr} {c':Nat} {css2:List (List Value)} (hl:css2.length = m) (hcl:∀ c∈css2,c.length = te.sz) (h1c:∀ c∈css2,∀ v∈c,v.oneCell' = true) (hat:0 < m→∃ ad,A = some ad∧At w ad css2.flatten) (hb:(n + m) * ie.bytes≤140737488355328) :
  ∃ v1 w1,(Builtin.append_ #[t,t] ty #[u,.slice A m c']).run P w = .ok v1 w1∧w1.ownsRow 0 e te.sz v1 (n + m) (cs1 ++ css2.flatten)∧w.grownBy w1 u.ownBlock∧(v1.ownBlock = u.ownBlock∨v1.ownBlock = some w.heap.size):=by
 obtain ⟨inf,k1,k2,k3,k4⟩:=hte.info
 rw [hie] at k2 k4
 have hzc:(te.val te.zcells).cells.toList = te.zcells:=val_cells (zcells_len _) (K_one (K_zero w (fun _=>True) te))
 have hlen:n + m≤140737488355328:=Nat.le_trans (Nat.le_mul_of_pos_right _ hte.pos) hb
 cases A with
 | none =>
  have h0:m = 0:=by
   apply Classical.byContradiction
   intro h
   obtain ⟨ad,h6,_⟩:=hat (by omega)
   cases h6
  subst h0
  have h1:css2 = []:=List.eq_nil_of_length_eq_zero hl
  subst h1
  refine ⟨u,w,?_,by simpa using g6,World.grownBy.refl w _,.inl rfl⟩
  rcases g6.2 with ⟨h2,h3⟩ | ⟨g,cap,cur,h2,_,_,hnc,_⟩
  ·rw [h2]; simp [Builtin.append_,run_underlying hu,sizeOf,typeInfo,k1,Builtin.lenOf,Builtin.firstCells]
  ·rw [h2]; simp [Builtin.append_,run_underlying hu,sizeOf,typeInfo,k1,Builtin.lenOf,Builtin.firstCells,hnc,storeCells]
 | some ad =>
  have hcells:∀ j u,css2.flatten[j]? = some u→w.cell? (ad.add j) = some u:=by
   by_cases hp:0 < m
   ·obtain ⟨ad',h6,h7⟩:=hat hp
    injection h6 with h6
    subst h6
    exact h7
   ·have h1:css2 = []:=List.eq_nil_of_length_eq_zero (by omega)
    subst h1
    intro j u hu; simp at hu
  obtain ⟨v1,w1,h1,h2,h3,_,h4⟩:=run_append_own_at (P:=P) w 0 t ty e inf (te.val te.zcells) te.sz ie.bytes hu k1 k4 k2 k3 (by rw [← Array.length_toList,hzc,zcells_len]) hpos u n cs1 g6 ad m c' css2.flatten
   (by rw [flat_length hcl,hl]) hcells (by
    intro u hu
    obtain ⟨cl,hcl',hu⟩:=List.mem_flatten.1 hu
    exact h1c cl hcl' u hu) (by simp only [maxLen]; omega) hb (Nat.zero_le _)
  exact ⟨v1,w1,h1,h2,h3,h4⟩
theorem nils_flat:∀ css:List (List Value),((css.map (fun c=>((c,[]):List Value × List Nat))).map Prod.snd).flatten = []
 | []=>rfl
 | c :: css=>by
  simp only [List.map_cons,List.flatten_cons,List.nil_append]
  exact nils_flat css
/-- The tail: what its value says. -/
theorem tail_rows (hs:Sim B okA w0 β st a w) {s tid e:Nat} {te:Ty} {sh:Sh} {y:Operand} {ys:List te.T} {z:Option Nat} (h:tailA E st s tid e te sh (st.val y) = some (ys,z)) :
  ∃ A c' rs2,a.eval y = .slice A (List.length ys) c'∧All2 (fun x r=>KS w (okD w B okA β st.ob false) sh te x r.1 r.2) ys rs2∧(0 < List.length ys→∃ ad,A = some ad∧At w ad (rs2.map Prod.fst).flatten)∧(rs2.map Prod.snd).flatten.Nodup ∧
   (match z with | none=>(rs2.map Prod.snd).flatten = [] | some z=>z≠s∧∃ o,St.obj st.ob z = some o∧(∃ shz tz xz,o = .tr false shz tz xz)∧∀ k∈(rs2.map Prod.snd).flatten,owns (β z) k):=by
 have hv:=hs.val y
 unfold tailA at h
 split at h
 ·rename_i s2 t2 hA
  split at h
  ·cases h
  rename_i hne
  split at h
  case h_2=>cases h
  rename_i sh2 t1 x1 hob
  split at h
  case isFalse=>cases h
  rename_i hc
  obtain ⟨rfl,rfl⟩:=hc
  split at h
  case h_2=>cases h
  rename_i ys' hcast
  injection h with h
  injection h with h1 h2
  subst h2
  obtain ⟨e1,e2⟩:=cast?_some hcast
  subst e1
  have e2:ys' = x1:=e2
  subst e2
  subst h1
  rw [hA] at hv
  obtain ⟨u,L,bx,sh',t',x',cs,hb,hob',hin,hpc,hev⟩:=hv
  rw [hob] at hob'
  obtain ⟨rfl,_⟩:=tr_inj hob'
  obtain ⟨rc,Lr,hr⟩:=hs.root hob hb
  obtain ⟨hu,rfl⟩:=hr.val rfl
  have hks:=hr.ks
  obtain ⟨v0,rs,hrc,hrow,hel,hL⟩:=hks
  have hcs:cs = [v0]:=by
   rcases hpc with ⟨_,h1⟩ | ⟨g,q,cur,e',fz,h1,_⟩
   ·rw [h1,hr.root,hrc]; rfl
   ·exact h1.elim
  have hev:a.eval y = v0:=by rw [hev,hcs]; rfl
  have hrc2:=hrow.2
  have:∃ A c,v0 = .slice A (List.length ys') c∧(0 < List.length ys'→∃ ad,A = some ad∧At w ad (rs.map Prod.fst).flatten):=by
   rcases hrc2 with ⟨h1,h2⟩ | ⟨g,cap,cur,h1,_,h3,h4,h5,h6,h7⟩
   ·exact ⟨none,0,by rw [h1,h2],fun hp=>absurd hp (by omega)⟩
   ·refine ⟨_,_,h1,fun _=>⟨_,rfl,?_⟩⟩
    rw [← h7]
    have:=(at_rowT h3 0).take (List.length ys' * te.sz)
    simpa using this
  obtain ⟨A,c',h1,h2⟩:=this
  have hnd:=hr.nd
  rw [hL,List.nodup_append] at hnd
  refine ⟨A,c',rs,hev.trans h1,hel,h2,hnd.2.1,hne,_,hob,⟨_,_,_,rfl⟩,fun k hk=>?_⟩
  rw [hb,hL]
  exact owns_tup.2 (List.mem_append.2 (.inr hk))
 ·split at h
  case h_2=>cases h
  rename_i d hdt
  split at h
  case isFalse=>cases h
  rename_i hsh
  subst hsh
  split at h
  case h_2=>cases h
  rename_i ys' hcast
  injection h with h
  injection h with h1 h2
  subst h1; subst h2
  obtain ⟨cs,hK,hev⟩:=srcD (t:=.slice e te) hdt hv hcast
  obtain ⟨_,A,c',css,rfl,g1,g2,g3,g4⟩:=hK
  refine ⟨A,c',css.map (fun c=>(c,[])),hev,?_,fun hp=>?_,?_,?_⟩
  ·have:∀ {xs:List te.T} {css:List (List Value)},All2 (fun x r=>K w (okD w B okA β st.ob false) te x r) xs css→All2 (fun x (r:List Value × List Nat)=>KS w (okD w B okA β st.ob false) .fz te x r.1 r.2) xs (css.map (fun c=>(c,[]))):=by
    intro xs
    induction xs with
    | nil=>intro css h; cases css with
     | nil=>trivial
     | cons _ _=>exact h.elim
    | cons x xs ih=>intro css h; cases css with
     | nil=>exact h.elim
     | cons c css=>exact ⟨⟨rfl,h.1⟩,ih h.2⟩
   exact this g3
  ·obtain ⟨ad,rfl,_,_,h7⟩:=g4 hp
   refine ⟨ad,rfl,?_⟩
   have:(css.map (fun c=>((c,[]):List Value × List Nat))).map Prod.fst = css:=by
    rw [List.map_map]; exact (List.map_congr_left (fun _ _=>rfl)).trans (List.map_id css)
   rw [this]; exact h7
  ·rw [nils_flat]; simp
  ·exact nils_flat css
end
end Go.Fil
/- append to a row of a tree; operations on trees, all of them. -/
set_option linter.unusedSectionVars false
namespace Go.Fil
open Go.RowKit
set_option linter.unusedVariables false
set_option linter.unusedSimpArgs false
section
variable [Lin] {P:Program} {E:Env} {o:Oper} {a:Act} {w:World} {next:Act→World→Prop} {Q:Exit→Act→World→Prop} {B:Nat} {okA:Nat→Prop} {w0:World} {β:Nat→Value} {st:St} {ρ:Type} {r:ρ}
theorem killD_two {st:St} {l:List Nat} {s q:Nat} (h:∀ A∈st.tm,A.deep q = false):killD (q :: l) (killD [s] st.tm) = killD (s :: l) st.tm:=by
 unfold killD
 rw [List.map_map]
 refine List.map_congr_left (fun A hA'=>?_)
 have h5:=h A hA'
 have hu:∀ n,Fil.A.deep n .und = false:=fun _=>rfl
 simp only [Function.comp_apply,List.any_cons,List.any_nil,Bool.or_false]
 by_cases h6:A.deep s = true
 ·simp [h6,hu]
 ·simp [h6,h5]
theorem appT_sound (he:EnvOk P E) (hs:Sim B okA w0 β st a w) {c:Call} (ho:o.op = .call c) (hc:c.callee = .builtin .append) {t t':Nat} {x y:Operand} (ha:c.args.toList = [x,y]) (hat:c.argTypes.toList = [t,t']) {s off:Nat} {tv:Ty} (hA:st.val x = .vw s [] off tv) {Kd:Dl→Option ρ} (h:appT E o st t t' s off tv (st.val y) Kd = some r)
  (hn:∀ δ β' a' w',Sim B okA w0 β' (δ.app o.dst st) a' w'→Kd δ = some r→next a' w'):o.wp P a w next Q:=by
 unfold appT at h
 split at h
 case h_2=>cases h
 rename_i _ _ _ i bx sh0 t0 x0 d0 hT hob hd
 split at h
 case h_2=>cases h
 rename_i e te hty
 split at h
 case h_2=>cases h
 rename_i _ _ _ ie xs sh hTe hsub hsh
 split at h
 case h_2=>cases h
 rename_i ys z htail
 split at h
 case isFalse=>cases h
 rename_i hcond
 obtain ⟨rfl,hie,hpos,htv⟩:=hcond
 subst htv
 have h':=br_some h
 clear h
 rcases h' with ⟨hb',h⟩ | ⟨_,h⟩
 case inr=>cases h
 have hbd:(List.length xs + List.length ys) * ie.bytes≤140737488355328:=of_decide_eq_true hb'
 have hu:=desc_slice (he.T _ _ hT) hty
 have hte:=he.T _ _ hTe
 obtain ⟨A,c',rs2,hyv,hy,hyat,hn2,hz⟩:=tail_rows hs htail
 have hl2:(rs2.map Prod.fst).length = List.length ys:=by rw [List.length_map]; exact hy.length.symm
 have hcl2:=rows_len hy
 have h1c:∀ c∈rs2.map Prod.fst,∀ v∈c,v.oneCell' = true:=by
  intro c hc'
  obtain ⟨q,hq,rfl⟩:=List.mem_map.1 hc'
  obtain ⟨x',_,hx'⟩:=hy.mem q hq
  exact KS_one hx'
 have hxv:=hs.val x
 rw [hA] at hxv
 obtain ⟨u,L,bx2,sh2,t2,x2,cs,hb,hob2,hin,hpc,hev⟩:=hxv
 have hcs:cs = ((rootC w bx2 u).drop off).take (Ty.slice e te).sz:=by
  rcases hpc with ⟨_,h5⟩ | ⟨g,q',cur,e',fz,h5,_⟩
  ·exact h5
  ·exact h5.elim
 rw [hob] at hob2
 obtain ⟨rfl,rfl,rfl,_⟩:=tr_inj hob2
 have fin:∀ v1 w1,(Builtin.append_ #[t,t] o.type #[a.eval x,a.eval y]).run P w = .ok v1 w1→next (a.put o.dst v1) w1→o.wp P a w next Q:=by
  intro v1 w1 h1 h2
  have hex:(execOp a.eval o).run P w = .ok (.value v1) w1:=by
   have r1:c.args = #[x,y]:=by rw [← ha]
   have r2:c.argTypes = #[t,t]:=by rw [← hat]
   simp only [execOp,ho,resolve,hc,r1,r2]
   simp [invoke,builtin,h1]
  unfold Oper.wp
  rw [hex]
  exact h2
 have hlt:=lt_of_obj hob
 have hzo:∀ q,z = some q→q≠s∧∃ o,St.obj st.ob q = some o∧(∃ shz tz xz,o = .tr false shz tz xz)∧∀ k∈(rs2.map Prod.snd).flatten,owns (β q) k:=by
  rintro q rfl; exact hz
 have happ:∀ (ups:List (Nat × Option Ob)) (kl:List Nat) (A:Fil.A),(Dl.u ups kl A).app o.dst st = ⟨(killD kl st.tm).set d0 A,updOb st.ob ups⟩:=by
  intro ups kl A
  rw [hd]; rfl
 by_cases hw:bx = false∧off = 0∧t0 = .slice e te∧s≠0
 ·rw [if_pos hw] at h
  obtain ⟨rfl,rfl,rfl,hsn⟩:=hw
  have hx0:x0 = xs:=by simpa [sub,Ty.cast?] using hsub
  have hs0:sh0 = .ow sh:=by simpa [shG] using hsh
  subst hx0; subst hs0
  obtain ⟨rs1,hrow,happd⟩:=hs.tr_append hob hb hsn hy hn2 z hz
  have hxu:a.eval x = u:=by
   have h1:u.oneCell' = true:=row_one hrow
   have h2:rootC w false u = [u]:=by
    simp only [rootC,Bool.false_eq_true,if_false]
    exact val_cells (t:=.slice e te) (cs:=[u]) rfl (by simpa using h1)
   rw [hev,hcs,h2]; rfl
  obtain ⟨v1,w1,r1,r2,r3,r4⟩:=run_append_rows (P:=P) (w:=w) (ty:=o.type) hu hte hie hpos hrow (A:=A) (c':=c') hl2 hcl2 h1c hyat hbd
  obtain ⟨β',hS⟩:=happd r2 r3 r4 d0
  refine fin v1 w1 (by rw [hxu,hyv]; exact r1) ?_
  rw [hd]
  refine hn _ β' _ _ ?_ h
  rw [happ]
  cases z with
  | none=>exact hS
  | some q=>exact hS
 ·rw [if_neg hw] at h
  split at h
  ·cases h
  rename_i hd0
  split at h
  case h_2=>cases h
  rename_i hfree
  have hdn:=obj_none hfree
  have hds:d0≠s:=by rintro rfl; rw [hob] at hdn; cases hdn
  obtain ⟨L1,hL1,hS⟩:=hs.take hob hb hsub hsh hfree hd0
  rw [← (show cs = ((rootC w bx u).drop off).take (Ty.slice e te).sz from hcs)] at hS
  have hql:d0 < st.ob.length:=(List.getElem?_eq_some_iff.1 hfree).1
  have hO1:∀ k,St.obj ((st.ob.set s (some (.tr bx (shP sh0 t0 off (.slice e te) .mv) t0 x0))).set d0 (some (.tr false (.ow sh) (.slice e te) xs))) k = if d0 = k then some (.tr false (.ow sh) (.slice e te) xs) else if s = k then some (.tr bx (shP sh0 t0 off (.slice e te) .mv) t0 x0) else St.obj st.ob k:=by
   intro k
   rw [obj_set]
   by_cases e1:d0 = k
   ·subst e1; simp [hql]
   ·simp only [e1,false_and,if_false]
    rw [obj_set]
    by_cases e2:s = k
    ·subst e2; simp [hlt]
    ·simp [e2]
  generalize hβ:upd (upd β s (tupV u (L.filter fun k=>decide (k∉L1)))) d0 (tupV ((Ty.slice e te).val cs) L1) = β1 at hS
  have hβd:β1 d0 = tupV ((Ty.slice e te).val cs) L1:=by rw [← hβ]; simp [upd]
  have hβs:β1 s = tupV u (L.filter fun k=>decide (k∉L1)):=by rw [← hβ]; simp [upd,Ne.symm hds]
  have hβo:∀ k,k≠s→k≠d0→β1 k = β k:=fun k h1 h2=>by rw [← hβ]; simp [upd,h1,h2]
  have hobD:St.obj ((st.ob.set s (some (.tr bx (shP sh0 t0 off (.slice e te) .mv) t0 x0))).set d0 (some (.tr false (.ow sh) (.slice e te) xs))) d0 = some (.tr false (.ow sh) (.slice e te) xs):=by
   rw [hO1,if_pos rfl]
  have how:∀ k,Ow β1 ((st.ob.set s (some (.tr bx (shP sh0 t0 off (.slice e te) .mv) t0 x0))).set d0 (some (.tr false (.ow sh) (.slice e te) xs))) k→Ow β st.ob k:=by
   rintro k ⟨i',o',h1,h2⟩
   rw [hO1] at h1
   by_cases e1:d0 = i'
   ·subst e1
    rw [hβd] at h2
    exact ⟨s,_,hob,by rw [hb]; exact owns_tup.2 (hL1 k (owns_tup.1 h2))⟩
   ·rw [if_neg e1] at h1
    by_cases e2:s = i'
    ·subst e2
     rw [hβs] at h2
     exact ⟨s,_,hob,by rw [hb]; exact owns_tup.2 (List.mem_filter.1 (owns_tup.1 h2)).1⟩
    ·rw [if_neg e2] at h1
     rw [hβo i' (Ne.symm e2) (Ne.symm e1)] at h2
     exact ⟨i',o',h1,h2⟩
  have hy1:All2 (fun x r=>KS w (okD w B okA β1 ((st.ob.set s (some (.tr bx (shP sh0 t0 off (.slice e te) .mv) t0 x0))).set d0 (some (.tr false (.ow sh) (.slice e te) xs))) false) sh te x r.1 r.2) ys rs2 :=
   hy.imp (fun x' q hq=>KS_step (fun k hk hlt'=>⟨⟨hk.1,fun h=>hk.2.1 (how k h),hk.2.2⟩,hlt',rfl⟩) (fun _ _=>rfl) hq)
  obtain ⟨rs1,hrow,happd⟩:=hS.tr_append hobD hβd hd0 hy1 hn2 z (by
   cases z with
   | none=>exact hz
   | some q =>
    obtain ⟨h1,o',h2,h3,h4⟩:=hz
    have hqd:q≠d0:=by rintro rfl; rw [hdn] at h2; cases h2
    exact ⟨hqd,o',by show St.obj ((st.ob.set s _).set d0 _) q = _; rw [hO1,if_neg (Ne.symm hqd),if_neg (Ne.symm h1)]; exact h2,h3,fun k hk=>by rw [hβo q h1 hqd]; exact h4 k hk⟩)
  obtain ⟨v1,w1,r1,r2,r3,r4⟩:=run_append_rows (P:=P) (w:=w) (ty:=o.type) hu hte hie hpos hrow (A:=A) (c':=c') hl2 hcl2 h1c hyat hbd
  obtain ⟨β',hS2⟩:=happd r2 r3 r4 d0
  refine fin v1 w1 (by rw [hev,hyv]; exact r1) ?_
  rw [hd]
  refine hn _ β' _ _ ?_ h
  rw [happ,← killD_two (l:=z.toList) (deep_free hs hdn)]
  refine hS2.obEq (fun k=>?_)
  have hzl:∀ q,z = some q→q < st.ob.length:=fun q hq=>lt_of_obj (hzo q hq).2.choose_spec.1
  have hzd:∀ q,z = some q→q≠d0:=by
   rintro q hq rfl
   obtain ⟨_,o2,h2,_⟩:=hzo _ hq
   rw [hdn] at h2; cases h2
  have q1:St.obj (updOb st.ob ((z.toList.map fun q=>(q,(none:Option Ob))) ++ [(s,some (.tr bx (shP sh0 t0 off (.slice e te) .mv) t0 x0)),(d0,some (.tr false (.ow sh) (.slice e te) (xs ++ ys:List te.T)))])) k = if d0 = k then some (.tr false (.ow sh) (.slice e te) (xs ++ ys:List te.T)) else if s = k then some (.tr bx (shP sh0 t0 off (.slice e te) .mv) t0 x0) else if z = some k then none else St.obj st.ob k:=by
   cases z with
   | none =>
    simp only [Option.toList,List.map_nil,List.nil_append,updOb]
    rw [obj_set]
    by_cases e1:d0 = k
    ·subst e1; simp [hql]
    ·simp only [e1,false_and,if_false]
     rw [obj_set]
     by_cases e2:s = k
     ·subst e2; simp [hlt]
     ·simp [e2]
   | some q =>
    have hq1:=hzl q rfl
    simp only [Option.toList,List.map_cons,List.map_nil,List.cons_append,List.nil_append,updOb]
    rw [obj_set]
    by_cases e1:d0 = k
    ·subst e1; simp [hql]
    ·simp only [e1,false_and,if_false]
     rw [obj_set]
     by_cases e2:s = k
     ·subst e2; simp [hlt]
     ·simp only [e2,false_and,if_false]
      rw [obj_set]
      by_cases e3:q = k
      ·subst e3; simp [hq1]
      ·simp [e3]
  have q2:St.obj ((match z with | none=>((st.ob.set s (some (.tr bx (shP sh0 t0 off (.slice e te) .mv) t0 x0))).set d0 (some (.tr false (.ow sh) (.slice e te) xs))) | some z=>((st.ob.set s (some (.tr bx (shP sh0 t0 off (.slice e te) .mv) t0 x0))).set d0 (some (.tr false (.ow sh) (.slice e te) xs))).set z none).set d0 (some (.tr false (.ow sh) (.slice e te) (xs ++ ys:List te.T)))) k = if d0 = k then some (.tr false (.ow sh) (.slice e te) (xs ++ ys:List te.T)) else if s = k then some (.tr bx (shP sh0 t0 off (.slice e te) .mv) t0 x0) else if z = some k then none else St.obj st.ob k:=by
   cases z with
   | none =>
    simp only
    rw [obj_set]
    by_cases e1:d0 = k
    ·subst e1; simp [hql]
    ·simp only [e1,false_and,if_false]
     rw [hO1,if_neg e1]
     simp
   | some q =>
    have hq1:=hzl q rfl
    have hq2:=(hzo q rfl).1
    simp only
    rw [obj_set]
    by_cases e1:d0 = k
    ·subst e1; simp [hql]
    ·simp only [e1,false_and,if_false]
     rw [obj_set]
     by_cases e3:q = k
     ·subst e3; simp [hq1,Ne.symm hq2]
     ·simp only [e3,false_and,if_false]
      rw [hO1,if_neg e1]
      simp [e3]
  exact q1.trans q2.symm
end
end Go.Fil
/- New trees out of parts. -/
set_option linter.unusedSectionVars false
namespace Go.Fil
open Go.RowKit
set_option linter.unusedVariables false
set_option linter.unusedSimpArgs false
theorem updOb_len:∀ (ups:List (Nat × Option Ob)) (ob:List (Option Ob)),(updOb ob ups).length = ob.length
 | [],_=>rfl
 | (s,o) :: r,ob=>by rw [updOb,updOb_len r]; simp
theorem obj_none_set {ob:List (Option Ob)} {q i:Nat}:St.obj (ob.set q none) i = if q = i then none else St.obj ob i:=by
 rw [obj_set]
 by_cases e:q = i
 ·subst e
  by_cases h:q < ob.length
  ·simp [h]
  ·simp only [h,and_false,if_false,if_true]
   unfold St.obj
   rw [List.getElem?_eq_none (by omega)]
   rfl
 ·simp [e]
theorem updObN:∀ (zs:List Nat) (ob:List (Option Ob)) (i:Nat),St.obj (updOb ob (zs.map fun q=>(q,none))) i = if i∈zs then none else St.obj ob i
 | [],_,_=>by simp [updOb]
 | z :: zs,ob,i=>by
  rw [List.map_cons,updOb,updObN zs,obj_none_set]
  by_cases h:i∈zs
  ·simp [h]
  ·by_cases e:z = i
   ·simp [e]
   ·simp [h,e,Ne.symm e]
section
variable [Lin] {P:Program} {E:Env} {o:Oper} {a:Act} {w:World} {next:Act→World→Prop} {Q:Exit→Act→World→Prop} {B:Nat} {okA:Nat→Prop} {w0:World} {β:Nat→Value} {st:St} {ρ:Type} {r:ρ}
theorem no_site (hs:Sim B okA w0 β st a w) {d0:Nat} (hdn:St.obj st.ob d0 = none) {A':Fil.A} {v:Value} (hrep:RepA w (okD w B okA β st.ob) β st.ob A' v):A'.site≠some d0:=by
 intro hs1
 cases A' with
 | ptr s2 o2 t2=>simp only [Fil.A.site,Option.some.injEq] at hs1; subst hs1; obtain ⟨g,_,_,t0,f0,x0,h3⟩:=hrep; rw [hdn] at h3; cases h3
 | ep s2 i2 o2 t2=>simp only [Fil.A.site,Option.some.injEq] at hs1; subst hs1; obtain ⟨g,n,c,_,e2,te2,f2,x2,h3,_⟩:=hrep; rw [hdn] at h3; cases h3
 | own s2=>simp only [Fil.A.site,Option.some.injEq] at hs1; subst hs1; obtain ⟨_,e2,te2,f2,x2,h3⟩:=hrep; rw [hdn] at h3; cases h3
 | xr=>simp only [Fil.A.site,Option.some.injEq] at hs1; subst hs1; obtain ⟨_,e2,te2,x2,h3⟩:=hrep; rw [hdn] at h3; cases h3
 | xp i2 o2 t2=>simp only [Fil.A.site,Option.some.injEq] at hs1; subst hs1; obtain ⟨ad,n,c,_,e2,te2,x2,h3,_⟩:=hrep; rw [hdn] at h3; cases h3
 | pt s2 p2 o2 t2=>simp only [Fil.A.site,Option.some.injEq] at hs1; subst hs1; obtain ⟨u,L,bx,sh,t1,x1,_,h3,_⟩:=hrep; rw [hdn] at h3; cases h3
 | vw s2 p2 o2 t2=>simp only [Fil.A.site,Option.some.injEq] at hs1; subst hs1; obtain ⟨u,L,bx,sh,t1,x1,cs,_,h3,_⟩:=hrep; rw [hdn] at h3; cases h3
 | tp s2 t2=>simp only [Fil.A.site,Option.some.injEq] at hs1; subst hs1; obtain ⟨u,L,bx,sh,t1,x1,_,h3,_⟩:=hrep; rw [hdn] at h3; cases h3
 | _=>simp [Fil.A.site] at hs1
/-- A new tree at a free place, out of others (zs) and new blocks. -/
theorem Sim.tr_make (hs:Sim B okA w0 β st a w) {d0:Nat} (hfree:st.ob[d0]? = some none) (hd0:d0≠0) {w1:World} (hg:Grow w w1) {sh:Sh} {t:Ty} {x:t.T} {u:Value} {L:List Nat} (zs:List Nat) (hzs:∀ z∈zs,∃ shz tz xz,St.obj st.ob z = some (.tr false shz tz xz)) (hn:L.Nodup) (hL:∀ k∈L,w.heap.size≤k∨∃ z∈zs,owns (β z) k)
  (hT:∀ G':Bool→Nat→Prop,Mv w w1 (okD w B okA β st.ob) G'→TrIs w1 (G' false) false sh t x u L) :
  ∃ β',Sim B okA w0 β' ⟨(killD zs st.tm).set d0 (.vw d0 [] 0 t),(updOb st.ob (zs.map fun q=>(q,none))).set d0 (some (.tr false sh t x))⟩ (a.put (some d0) u) w1:=by
 have hlt:d0 < st.ob.length:=(List.getElem?_eq_some_iff.1 hfree).1
 have hdn:=obj_none hfree
 have hzd:d0∉zs:=fun h=>by
  obtain ⟨_,_,_,h1⟩:=hzs d0 h
  rw [hdn] at h1; cases h1
 have hO:∀ i,St.obj ((updOb st.ob (zs.map fun q=>(q,none))).set d0 (some (.tr false sh t x))) i = if d0 = i then some (.tr false sh t x) else if i∈zs then none else St.obj st.ob i:=by
  intro i
  rw [obj_set]
  by_cases e1:d0 = i
  ·subst e1; simp [updOb_len,hlt]
  ·simp only [e1,false_and,if_false]
   exact updObN _ _ _
 have key:∀ {i:Nat} {o1:Ob},(i = d0∨i∈zs)→(if d0 = i then some (.tr false sh t x) else if i∈zs then none else St.obj st.ob i) = some o1→i = d0:=by
  intro i o1 hi h5
  by_cases e1:d0 = i
  ·exact e1.symm
  ·rw [if_neg e1] at h5
   rcases hi with hi | hi
   ·exact hi
   ·rw [if_pos hi] at h5; cases h5
 refine ⟨upd β d0 (tupV u L),hs.change (fun i=>i = d0∨i∈zs) ⟨hg.below.os,hg.below.tape,hg.below.output,hg.below.size,fun k hk _=>hg.below.block k hk⟩ (by simp [Act.put,killD,hs.len]) (by simpa [Act.put] using hs.defers) ?_ ?_ ?_ ?_ ?_ ?_ ?_ ?_⟩
 ·intro i hi
  have e1:d0≠i:=fun e=>hi (.inl e.symm)
  have e2:i∉zs:=fun e=>hi (.inr e)
  exact ⟨by rw [hO,if_neg e1,if_neg e2],by simp [upd,Ne.symm e1]⟩
 ·rintro i o' (rfl | hi) ho' e1 t1 xs1 rfl
  ·rw [hdn] at ho'; cases ho'
  ·obtain ⟨_,_,_,h5⟩:=hzs i hi
   rw [h5] at ho'
   cases ho'
 ·rintro i o' hi ho' e1 t1 xs1 rfl
  rw [hO] at ho'
  have:=key hi ho'
  rw [if_pos this.symm] at ho'
  cases ho'
 ·intro i o' k hi ho' hk
  rw [hO] at ho'
  obtain rfl:=key hi ho'
  simp only [upd,if_true] at hk
  rcases hL k (owns_tup.1 hk) with h5 | ⟨z,h5,h6⟩
  ·exact .inl h5
  ·obtain ⟨_,_,_,h7⟩:=hzs z h5
   exact .inr ⟨z,_,.inr h5,h7,h6⟩
 ·intro i i' o1 o2 k hi hi' h5 h6 _ _
  rw [hO] at h5 h6
  rw [key hi h5,key hi' h6]
 ·intro hmv i o' hi ho'
  rw [hO] at ho'
  obtain rfl:=key hi ho'
  rw [if_pos rfl] at ho'
  injection ho' with ho'
  subst ho'
  simp only [upd,if_true]
  refine RepO_tr (hT _ hmv) hn ?_
  intro k hk
  rcases hL k hk with h5 | ⟨z,h5,h6⟩
  ·exact .inl (Nat.le_trans hs.size h5)
  ·obtain ⟨_,_,_,h7⟩:=hzs z h5
   exact ((hs.ob z _ h7).lt h6).1
 ·intro hmv i A' hA'
  simp only [Act.put]
  rw [getD_set]
  rw [List.getElem?_set] at hA'
  by_cases e1:d0 = i
  ·subst e1
   by_cases hd:d0 < (killD zs st.tm).length
   ·simp only [hd,if_true,Option.some.injEq] at hA'
    subst hA'
    have:d0 < a.tmps.size:=by rw [hs.len]; simpa [killD] using hd
    simp only [this,true_and,and_self,if_true]
    have h2:=hT _ hmv
    unfold TrIs at h2
    rw [if_neg (by simp)] at h2
    obtain ⟨cs,rfl,hK⟩:=h2
    refine .inl ⟨t.val cs,L,false,sh,t,x,cs,by simp [upd],by rw [hO,if_pos rfl],(fun h=>by cases h),.inl ⟨rfl,?_⟩,rfl⟩
    have h3:rootC w1 false (t.val cs) = cs:=by
     simp only [rootC,Bool.false_eq_true,if_false]
     exact val_cells (KS_len hK) (KS_one hK)
    rw [h3,List.drop_zero,← KS_len hK,List.take_length]
   ·simp [hd] at hA'
  ·simp only [e1,if_false] at hA'
   simp only [e1,false_and,if_false]
   rcases killD_get hA' with rfl | ⟨hA',hd⟩
   ·exact .inl trivial
   ·have hrep:=hs.tm i A' hA'
    refine .inr ⟨hrep,?_⟩
    rintro s' hs1 (rfl | hs2)
    ·exact no_site hs hdn hrep hs1
    ·obtain ⟨_,_,_,h6⟩:=hzs s' hs2
     obtain ⟨off',t'',u',L'',g',_,hbx,_⟩:=kill_rep h6 hrep hs1 (hd s' hs2)
     cases hbx
 ·intro h0 hz bx3 sh3 t3 x3 h1
  rw [hO] at h1
  exact absurd (key hz h1).symm hd0
/-- The same, in a box. -/
theorem Sim.tr_makeB (hs:Sim B okA w0 β st a w) {d0:Nat} (hfree:st.ob[d0]? = some none) (hd0:d0≠0) {w1:World} (hg:Grow w w1) {sh:Sh} {t:Ty} {x:t.T} {u:Value} {L:List Nat} (zs:List Nat) (hzs:∀ z∈zs,∃ shz tz xz,St.obj st.ob z = some (.tr false shz tz xz)) (hn:L.Nodup) (hL:∀ k∈L,w.heap.size≤k∨∃ z∈zs,owns (β z) k)
  (hT:∀ G':Bool→Nat→Prop,Mv w w1 (okD w B okA β st.ob) G'→TrIs w1 (G' false) true sh t x u L) :
  ∃ β',Sim B okA w0 β' ⟨(killD zs st.tm).set d0 (.pt d0 [] 0 t),(updOb st.ob (zs.map fun q=>(q,none))).set d0 (some (.tr true sh t x))⟩ (a.put (some d0) u) w1:=by
 have hlt:d0 < st.ob.length:=(List.getElem?_eq_some_iff.1 hfree).1
 have hdn:=obj_none hfree
 have hzd:d0∉zs:=fun h=>by
  obtain ⟨_,_,_,h1⟩:=hzs d0 h
  rw [hdn] at h1; cases h1
 have hO:∀ i,St.obj ((updOb st.ob (zs.map fun q=>(q,none))).set d0 (some (.tr true sh t x))) i = if d0 = i then some (.tr true sh t x) else if i∈zs then none else St.obj st.ob i:=by
  intro i
  rw [obj_set]
  by_cases e1:d0 = i
  ·subst e1; simp [updOb_len,hlt]
  ·simp only [e1,false_and,if_false]
   exact updObN _ _ _
 have key:∀ {i:Nat} {o1:Ob},(i = d0∨i∈zs)→(if d0 = i then some (.tr true sh t x) else if i∈zs then none else St.obj st.ob i) = some o1→i = d0:=by
  intro i o1 hi h5
  by_cases e1:d0 = i
  ·exact e1.symm
  ·rw [if_neg e1] at h5
   rcases hi with hi | hi
   ·exact hi
   ·rw [if_pos hi] at h5; cases h5
 refine ⟨upd β d0 (tupV u L),hs.change (fun i=>i = d0∨i∈zs) ⟨hg.below.os,hg.below.tape,hg.below.output,hg.below.size,fun k hk _=>hg.below.block k hk⟩ (by simp [Act.put,killD,hs.len]) (by simpa [Act.put] using hs.defers) ?_ ?_ ?_ ?_ ?_ ?_ ?_ ?_⟩
 ·intro i hi
  have e1:d0≠i:=fun e=>hi (.inl e.symm)
  have e2:i∉zs:=fun e=>hi (.inr e)
  exact ⟨by rw [hO,if_neg e1,if_neg e2],by simp [upd,Ne.symm e1]⟩
 ·rintro i o' (rfl | hi) ho' e1 t1 xs1 rfl
  ·rw [hdn] at ho'; cases ho'
  ·obtain ⟨_,_,_,h5⟩:=hzs i hi
   rw [h5] at ho'
   cases ho'
 ·rintro i o' hi ho' e1 t1 xs1 rfl
  rw [hO] at ho'
  have:=key hi ho'
  rw [if_pos this.symm] at ho'
  cases ho'
 ·intro i o' k hi ho' hk
  rw [hO] at ho'
  obtain rfl:=key hi ho'
  simp only [upd,if_true] at hk
  rcases hL k (owns_tup.1 hk) with h5 | ⟨z,h5,h6⟩
  ·exact .inl h5
  ·obtain ⟨_,_,_,h7⟩:=hzs z h5
   exact .inr ⟨z,_,.inr h5,h7,h6⟩
 ·intro i i' o1 o2 k hi hi' h5 h6 _ _
  rw [hO] at h5 h6
  rw [key hi h5,key hi' h6]
 ·intro hmv i o' hi ho'
  rw [hO] at ho'
  obtain rfl:=key hi ho'
  rw [if_pos rfl] at ho'
  injection ho' with ho'
  subst ho'
  simp only [upd,if_true]
  refine RepO_tr (hT _ hmv) hn ?_
  intro k hk
  rcases hL k hk with h5 | ⟨z,h5,h6⟩
  ·exact .inl (Nat.le_trans hs.size h5)
  ·obtain ⟨_,_,_,h7⟩:=hzs z h5
   exact ((hs.ob z _ h7).lt h6).1
 ·intro hmv i A' hA'
  simp only [Act.put]
  rw [getD_set]
  rw [List.getElem?_set] at hA'
  by_cases e1:d0 = i
  ·subst e1
   by_cases hd:d0 < (killD zs st.tm).length
   ·simp only [hd,if_true,Option.some.injEq] at hA'
    subst hA'
    have:d0 < a.tmps.size:=by rw [hs.len]; simpa [killD] using hd
    simp only [this,true_and,and_self,if_true]
    have h2:=hT _ hmv
    unfold TrIs at h2
    rw [if_pos rfl] at h2
    obtain ⟨g,cs,e,L',_,hu,_,_⟩:=h2
    exact .inl ⟨u,L,true,sh,t,x,by simp [upd],by rw [hO,if_pos rfl],.inl ⟨rfl,rfl,g,hu,hu⟩⟩
   ·simp [hd] at hA'
  ·simp only [e1,if_false] at hA'
   simp only [e1,false_and,if_false]
   rcases killD_get hA' with rfl | ⟨hA',hd⟩
   ·exact .inl trivial
   ·have hrep:=hs.tm i A' hA'
    refine .inr ⟨hrep,?_⟩
    rintro s' hs1 (rfl | hs2)
    ·exact no_site hs hdn hrep hs1
    ·obtain ⟨_,_,_,h6⟩:=hzs s' hs2
     obtain ⟨off',t'',u',L'',g',_,hbx,_⟩:=kill_rep h6 hrep hs1 (hd s' hs2)
     cases hbx
 ·intro h0 hz bx3 sh3 t3 x3 h1
  rw [hO] at h1
  exact absurd (key hz h1).symm hd0
end
end Go.Fil
/- Rows, structs and boxes told out of parts. -/
set_option linter.unusedSectionVars false
namespace Go.Fil
open Go.RowKit
set_option linter.unusedVariables false
set_option linter.unusedSimpArgs false
section
variable [Lin] {P:Program} {E:Env} {o:Oper} {a:Act} {w:World} {next:Act→World→Prop} {Q:Exit→Act→World→Prop} {B:Nat} {okA:Nat→Prop} {w0:World} {β:Nat→Value} {st:St} {ρ:Type} {r:ρ}
theorem oneA_rep (hs:Sim B okA w0 β st a w) {s:Nat} {t:Ty} {A0:Fil.A} {v:Value} (hv:RepA w (okD w B okA β st.ob) β st.ob A0 v) {y:t.T} {sh:Sh} {z:Option Nat} (h:oneA E st s t A0 = some (y,sh,z)) :
  ∃ cs L,v = t.val cs∧KS w (okD w B okA β st.ob false) sh t y cs L∧L.Nodup∧(∀ k∈L,∃ q∈z.toList,owns (β q) k)∧∀ q∈z.toList,q≠s∧∃ shz tz xz,St.obj st.ob q = some (.tr false shz tz xz):=by
 unfold oneA at h
 split at h
 ·rename_i s2 t2
  split at h
  ·cases h
  rename_i hne
  split at h
  case h_2=>cases h
  rename_i sh2 t1 x1 hob
  split at h
  case isFalse=>cases h
  rename_i ht
  subst ht
  split at h
  case h_2=>cases h
  rename_i y' hcast
  simp only [Option.some.injEq,Prod.mk.injEq] at h
  obtain ⟨rfl,rfl,rfl⟩:=h
  obtain ⟨e1,e2⟩:=cast?_some hcast
  subst e1
  have e2:y' = x1:=e2
  subst e2
  obtain ⟨u,L,bx,sh',t',x',cs,hb,hob',hin,hpc,hev⟩:=hv
  rw [hob] at hob'
  obtain ⟨rfl,rfl,_⟩:=tr_inj hob'
  obtain ⟨rc,Lr,hr⟩:=hs.root hob hb
  obtain ⟨hu,rfl⟩:=hr.val rfl
  have hcs:cs = rc:=by
   rcases hpc with ⟨_,h1⟩ | ⟨g,q,cur,e',fz,h1,_⟩
   ·rw [h1,hr.root,List.drop_zero,← KS_len hr.ks,List.take_length]
   ·exact h1.elim
  refine ⟨rc,L,by rw [hev,hcs],hr.ks,hr.nd,fun k hk=>⟨s2,by simp,by rw [hb]; exact owns_tup.2 hk⟩,fun q hq=>?_⟩
  have:q = s2:=by simpa using hq
  subst this
  exact ⟨hne,_,_,_,hob⟩
 ·rename_i t1 fr x1
  split at h
  case h_2=>cases h
  rename_i y' hcast
  simp only [Option.some.injEq,Prod.mk.injEq] at h
  obtain ⟨rfl,rfl,rfl⟩:=h
  obtain ⟨e1,e2⟩:=cast?_some hcast
  subst e1
  have e2:y' = x1:=e2
  subst e2
  obtain ⟨cs,h1,h2⟩:=hv
  exact ⟨cs,[],h2,⟨rfl,K_mono (fun k hk _=>⟨hk.1,hk.2.1,fun h=>by cases h⟩) h1⟩,by simp,by simp,by simp⟩
 ·cases h
theorem updOb_app:∀ (l1 l2:List (Nat × Option Ob)) (ob:List (Option Ob)),updOb ob (l1 ++ l2) = updOb (updOb ob l1) l2
 | [],_,_=>rfl
 | (s,o) :: l1,l2,ob=>by rw [List.cons_append,updOb,updOb,updOb_app l1 l2]
theorem app_make {d0:Nat} (hd:o.dst = some d0) (zs:List Nat) (ob1:Ob) (A1:Fil.A):(Dl.u ((zs.map fun q=>(q,none)) ++ [(d0,some ob1)]) zs A1).app o.dst st = ⟨(killD zs st.tm).set d0 A1,(updOb st.ob (zs.map fun q=>(q,none))).set d0 (some ob1)⟩:=by
 rw [hd]
 simp [Dl.app,St.set,updOb_app,updOb]
theorem run_lit (he:EnvOk P E) {t n e:Nat} {te:Ty} {i ie:TI} {ps:Array (Nat × Operand)} (ho:o.op = .buildSlice t n ps) (hT:E.T t = some i) (hty:i.ty = .slice e te) (hTe:E.T e = some ie) (hie:ie.ty = te) (hsz:n * te.sz≤16777216) {cells':Array Value}
  (hf:∀ cells:Array Value,cells.size = n * te.sz→Instr.fill (fun i=>some (i * te.sz,te.sz)) cells (ps.toList.map fun p=>(p.1,a.eval p.2)) = some cells') :
  (execOp a.eval o).run P w = .ok (.value (.slice (some ⟨w.heap.size,0,none⟩) n n)) (w.alloc (.cells cells' e)):=by
 have hte:=he.T _ _ hTe
 have hz:=run_zero hte w
 rw [hie] at hz
 have hsz':¬ n * te.sz > 2 ^ 24:=by omega
 have h9:(Instr.buildSlice t n (ps.map fun (i,x)=>(i,a.eval x))).run P w = .ok (.slice (some ⟨w.heap.size,0,none⟩) n n) (w.alloc (.cells cells' e)):=by
  unfold Instr.buildSlice
  by_cases h0:n * te.sz = 0
  ·have h5:=hf ((Array.range (n * te.sz)).map ((#[]:Array Value)[· % 0]!)) (by simp)
   rw [h0] at h5
   simp only [Sem.run_bind,run_underlying (desc_slice (he.T _ _ hT) hty),Result.andThen_ok,desc_elem (he.T _ _ hT) hty w,if_neg hsz',h0,if_true,Sem.run_pure,Array.toList_map]
   rw [if_neg (by decide)]
   simp only [Sem.run_bind,Sem.run_pure,Result.andThen_ok]
   have h5':Instr.fill (fun i=>some (i * te.sz,te.sz)) ((Array.range 0).map ((#[]:Array Value)[· % (#[]:Array Value).size]!)) (ps.toList.map fun x=>(x.1,a.eval x.2)) = some cells':=h5
   simp only [h5']
   rfl
  ·have h5:=hf ((Array.range (n * te.sz)).map ((te.val te.zcells).cells[· % (te.val te.zcells).cells.size]!)) (by simp)
   simp only [Sem.run_bind,run_underlying (desc_slice (he.T _ _ hT) hty),Result.andThen_ok,desc_elem (he.T _ _ hT) hty w,if_neg hsz',h0,if_false,Sem.run_pure,Array.toList_map,hz]
   simp only [h5]
   rfl
 simp only [execOp,ho,Sem.run_bind,h9,Result.andThen_ok]
 rfl
theorem litT_sound (he:EnvOk P E) (hs:Sim B okA w0 β st a w) {t n:Nat} {ps:Array (Nat × Operand)} (ho:o.op = .buildSlice t n ps) {Kd:Dl→Option ρ} (h:litT E o st t n (ps.toList.map fun p=>(p.1,st.val p.2)) Kd = some r)
  (hn:∀ δ β' a' w',Sim B okA w0 β' (δ.app o.dst st) a' w'→Kd δ = some r→next a' w'):o.wp P a w next Q:=by
 unfold litT at h
 split at h
 case h_2=>cases h
 rename_i i s hT hd
 split at h
 case h_2=>cases h
 rename_i e te hty hfree
 split at h
 case h_2=>cases h
 rename_i ie hTe
 split at h
 case isFalse=>cases h
 rename_i hc
 obtain ⟨hie,hsz,hnm,hs0⟩:=hc
 split at h
 ·-- no element
  rename_i hps
  split at h
  case h_2=>cases h
  rename_i sh hsh
  have hps':ps.toList = []:=by simpa using hps
  have hrun:=run_lit (a:=a) (w:=w) he ho hT hty hTe hie hsz (cells':=#[]) (fun cells hcs=>by
   rw [hps']
   have:cells = #[]:=Array.size_eq_zero_iff.1 (by simpa using hcs)
   rw [this]; rfl)
  obtain ⟨β',hS⟩:=hs.tr_make hfree hs0 (Grow.alloc w (.cells #[] e)) (sh:=.ow sh) (t:=.slice e te) (x:=([]:List te.T)) (u:=.slice (some ⟨w.heap.size,0,none⟩) 0 0) (L:=[w.heap.size]) [] (by simp) (by simp) (by simp) (fun G' hmv=>by
   unfold TrIs
   rw [if_neg (by simp)]
   refine ⟨[.slice (some ⟨w.heap.size,0,none⟩) 0 0],rfl,_,[],rfl,?_,trivial,rfl⟩
   refine ⟨by simp,.inr ⟨w.heap.size,0,#[],rfl,Nat.zero_le _,plain_alloc w _ e,Nat.le_refl _,by simp [maxLen],by simp,by simp⟩⟩)
  unfold Oper.wp
  rw [hrun]
  show next (a.put o.dst _) _
  rw [hd]
  refine hn _ β' _ _ ?_ h
  have:=app_make (st:=st) hd [] (.tr false (.ow sh) (.slice e te) ([]:List te.T)) (.vw s [] 0 (.slice e te))
  simp only [List.map_nil,List.nil_append] at this
  rw [this]
  exact hS
 ·-- one element
  rename_i A0 hps
  split at h
  case h_2=>cases h
  rename_i y sh z hone
  obtain ⟨x,hps',hA0⟩:∃ x,ps.toList = [(0,x)]∧st.val x = A0:=by
   revert hps
   generalize ps.toList = l
   intro hps
   cases l with
   | nil=>simp at hps
   | cons p l =>
    cases l with
    | nil =>
     simp only [List.map_cons,List.map_nil,List.cons.injEq,Prod.mk.injEq,and_true] at hps
     exact ⟨p.2,by rw [← hps.1],hps.2⟩
    | cons _ _=>simp at hps
  obtain ⟨cs,L,hv,hK,hnd,hown,hzs⟩:=oneA_rep hs (hA0 ▸ hs.val x) hone
  have hcl:=KS_len hK
  have hcells:(a.eval x).cells.toList = cs:=by rw [hv]; exact val_cells hcl (KS_one hK)
  have hrun:=run_lit (a:=a) (w:=w) he ho hT hty hTe hie hsz (cells':=cs.toArray) (fun cells hcs=>by
   rw [hps']
   have hl:cells.size = te.sz:=by simpa using hcs
   have hcl':(a.eval x).cells.size = te.sz:=by rw [← Array.length_toList,hcells,hcl]
   have hfold:=fold_set 0 (a.eval x).cells.toList 0 cells (by simp [hl,hcl'])
   rw [hcells] at hfold
   simp only [List.map_cons,List.map_nil,Instr.fill]
   rw [if_neg (by simp [hl,hcl'])]
   congr 1
   apply Array.ext'
   rw [← Array.foldl_toList,Array.toList_zipIdx,hcells]
   simp only [Nat.zero_mul]
   rw [hfold]
   simp [hl,hcl])
  have hlt:∀ k∈L,k < w.heap.size:=fun k hk=>(KS_lt hK k hk).1
  have hg:=Grow.alloc w (.cells cs.toArray e)
  obtain ⟨β',hS⟩:=hs.tr_make hfree hs0 hg (sh:=.ow sh) (t:=.slice e te) (x:=([y]:List te.T)) (u:=.slice (some ⟨w.heap.size,0,none⟩) 1 1) (L:=w.heap.size :: L) z.toList (fun q hq=>(hzs q hq).2) (by
    rw [List.nodup_cons]
    exact ⟨fun h=>by have:=hlt _ h; omega,hnd⟩) (by
    intro k hk
    rcases List.mem_cons.1 hk with rfl | hk
    ·exact .inl (Nat.le_refl _)
    ·obtain ⟨q,h1,h2⟩:=hown k hk
     exact .inr ⟨q,h1,h2⟩) (fun G' hmv=>by
   unfold TrIs
   rw [if_neg (by simp)]
   refine ⟨[.slice (some ⟨w.heap.size,0,none⟩) 1 1],rfl,_,[(cs,L)],rfl,?_,⟨?_,trivial⟩,by simp [Value.ownBlock]⟩
   ·refine ⟨by simp [hcl],.inr ⟨w.heap.size,1,cs.toArray,rfl,Nat.zero_le _,plain_alloc w _ e,Nat.le_refl _,by simp [maxLen],by simp [hcl],by simp [← hcl]⟩⟩
   ·exact KS_step (fun k hk hlt'=>hmv false k hk hlt') (fun k hk=>hg.below.block k (hlt k hk)) hK)
  unfold Oper.wp
  rw [hrun]
  show next (a.put o.dst _) _
  rw [hd]
  refine hn _ β' _ _ ?_ h
  rw [app_make hd]
  exact hS
 ·cases h
end
end Go.Fil
/- Structs, rows of zeros, boxes. -/
set_option linter.unusedSectionVars false
namespace Go.Fil
open Go.RowKit
set_option linter.unusedVariables false
set_option linter.unusedSimpArgs false
section
variable [Lin] {P:Program} {E:Env} {o:Oper} {a:Act} {w:World} {next:Act→World→Prop} {Q:Exit→Act→World→Prop} {B:Nat} {okA:Nat→Prop} {w0:World} {β:Nat→Value} {st:St} {ρ:Type} {r:ρ}
theorem fill_partsT (hs:Sim B okA w0 β st a w) {s:Nat} (i:TI) (place:Nat→Option (Nat × Nat)) (hp:∀ (f off:Nat) (ft:Ty),i.flds[f]? = some (off,ft)→place f = some (off,ft.sz)) :
  ∀ (ps:List (Nat × A)) (vs:List (Nat × Value)) (cells:Array Value) (x:i.ty.T) (sh:Sh) (zs:List Nat) (L:List Nat) (y:i.ty.T) (sh':Sh) (zs':List Nat),partsT E st s i ps x sh zs = some (y,sh',zs') →
   All2 (fun p u=>p.1 = u.1∧RepA w (okD w B okA β st.ob) β st.ob p.2 u.2) ps vs→KS w (okD w B okA β st.ob false) sh i.ty x cells.toList L→L.Nodup→(∀ k∈L,∃ q∈zs,owns (β q) k)→(∀ q∈zs,∃ shz tz xz,St.obj st.ob q = some (.tr false shz tz xz)) →
   ∃ cells' L',Instr.fill place cells vs = some cells'∧KS w (okD w B okA β st.ob false) sh' i.ty y cells'.toList L'∧L'.Nodup∧(∀ k∈L',∃ q∈zs',owns (β q) k)∧∀ q∈zs',∃ shz tz xz,St.obj st.ob q = some (.tr false shz tz xz)
 | [],[],cells,x,sh,zs,L,y,sh',zs',h,_,hK,hn,ho,hz=>by
  simp only [partsT,Option.some.injEq,Prod.mk.injEq] at h
  obtain ⟨rfl,rfl,rfl⟩:=h
  exact ⟨cells,L,rfl,hK,hn,ho,hz⟩
 | (f,A) :: ps,(f',v) :: vs,cells,x,sh,zs,L,y,sh',zs',h,hv,hK,hn,ho,hz=>by
  obtain ⟨⟨h1,h2⟩,hv⟩:=hv
  simp only at h1
  subst h1
  simp only [partsT] at h
  split at h
  case h_2=>cases h
  rename_i off ft hf
  split at h
  case h_2=>cases h
  rename_i _ _ _ y1 sh2 z s1 y0 hone hsg hsub
  split at h
  case isFalse=>cases h
  rename_i hall
  split at h
  case h_2=>cases h
  rename_i x' hput
  obtain ⟨cs,L2,hvc,hK2,hn2,hown,hzs⟩:=oneA_rep hs h2 hone
  have hl2:=KS_len hK2
  have hvv:v.cells.toList = cs:=by rw [show v = ft.val cs from hvc]; exact val_cells hl2 (KS_one hK2)
  obtain ⟨La,L1,Lb,rfl,hle,hk1,hk2⟩:=KS_focus hsub hsg hK
  have hl:=KS_len hK
  simp only [Array.length_toList] at hl
  have hvs:v.cells.size = ft.sz:=by rw [← Array.length_toList,hvv,hl2]
  have hfold:=fold_set off v.cells.toList 0 cells (by simp [hvs]; omega)
  rw [Nat.add_zero,Array.length_toList,hvs,hvv] at hfold
  have hcells:(v.cells.zipIdx.foldl (fun (cs:Array Value) (p:Value × Nat)=>cs.setIfInBounds (off + p.2) p.1) cells).toList = cells.toList.take off ++ cs ++ cells.toList.drop (off + ft.sz):=by
   rw [← hfold,← Array.foldl_toList,Array.toList_zipIdx,hvv]
  have hzall:∀ q∈z.toList,q∉zs:=by
   intro q hq
   have:=List.all_eq_true.1 hall q hq
   simpa using this
  have hdis:∀ k∈L2,k∉La ++ (L1 ++ Lb):=by
   intro k hk hk'
   obtain ⟨q,q1,q2⟩:=hown k hk
   obtain ⟨q',q3,q4⟩:=ho k hk'
   obtain ⟨_,_,_,q5⟩:=(hzs q q1).2
   obtain ⟨_,_,_,q6⟩:=hz q' q3
   have:=hs.apart q q' _ _ k q5 q6 q2 q4
   subst this
   exact hzall q q1 q3
  have m1:=hk2 (w':=w) (ok':=okD w B okA β st.ob false) (x':=x') (fun k hk hlt=>⟨hk,hlt,rfl⟩) (fun _ _=>rfl) hput hK2
  have m2:KS w (okD w B okA β st.ob false) (if s1 = sh2 then sh else shP sh i.ty off ft sh2) i.ty x' (cells.toList.take off ++ cs ++ cells.toList.drop (off + ft.sz)) (La ++ (L2 ++ Lb)):=by
   split
   ·rename_i e1
    subst e1
    exact KS_same hsg hK m1
   ·exact m1
  obtain ⟨cells',L',h5,h6,h7,h8,h9⟩:=fill_partsT hs i place hp ps vs _ x' _ (z.toList ++ zs) (La ++ (L2 ++ Lb)) y sh' zs' h hv (by rw [hcells]; exact m2) (nodup_put hn hn2 hdis) (by
   intro k hk
   simp only [List.mem_append] at hk
   rcases hk with hk | hk | hk
   ·obtain ⟨q,q1,q2⟩:=ho k (by simp [hk])
    exact ⟨q,by simp [q1],q2⟩
   ·obtain ⟨q,q1,q2⟩:=hown k hk
    exact ⟨q,List.mem_append.2 (.inl q1),q2⟩
   ·obtain ⟨q,q1,q2⟩:=ho k (by simp [hk])
    exact ⟨q,by simp [q1],q2⟩) (by
   intro q hq
   rcases List.mem_append.1 hq with hq | hq
   ·exact (hzs q hq).2
   ·exact hz q hq)
  refine ⟨cells',L',?_,h6,h7,h8,h9⟩
  rw [Instr.fill,hp f off ft hf]
  simp only
  rw [if_neg (by simp [hvs]; omega)]
  exact h5
 | [],_ :: _,_,_,_,_,_,_,_,_,_,hv,_,_,_,_=>hv.elim
 | _ :: _,[],_,_,_,_,_,_,_,_,_,hv,_,_,_,_=>hv.elim
theorem buildT_sound (he:EnvOk P E) (hs:Sim B okA w0 β st a w) {t:Nat} {ps:Array (Nat × Operand)} (ho:o.op = .build t ps) {Kd:Dl→Option ρ} (h:buildT E o st t (ps.toList.map fun p=>(p.1,st.val p.2)) Kd = some r)
  (hn:∀ δ β' a' w',Sim B okA w0 β' (δ.app o.dst st) a' w'→Kd δ = some r→next a' w'):o.wp P a w next Q:=by
 unfold buildT at h
 split at h
 case h_2=>cases h
 rename_i i s hT hd
 split at h
 case h_2=>cases h
 rename_i hfree harr
 split at h
 case isFalse=>cases h
 rename_i hc
 obtain ⟨hfit,hs0,hagg⟩:=hc
 split at h
 case h_2=>cases h
 rename_i x sh zs hx
 have ht:=he.T _ _ hT
 obtain ⟨ta,tb,hy⟩:∃ ta tb,i.ty = .pair ta tb:=by
  cases hi:i.ty with
  | pair ta tb=>exact ⟨ta,tb,rfl⟩
  | _=>rw [hi] at hagg; simp [Ty.isPair] at hagg
 obtain ⟨d,g1,g2⟩:=ht.und
 simp only [DescOk,hy,harr] at g2
 obtain ⟨fs,rfl,g3,g4⟩:=g2
 have hz:=run_zero ht w
 have hzc:(i.ty.val i.ty.zcells).cells.toList = i.ty.zcells:=val_cells (zcells_len _) (K_one (K_zero w (fun _=>True) i.ty))
 have hplaces:(fs.mapM fun f=>(do pure (f.offset,← sizeOf f.type):Sem (Nat × Nat))).run P w = .ok (fs.map fun f=>(f.offset,((P.info? f.type).map (·.size)).getD 0)) w:=by
  refine run_mapM_arr _ _ fs (fun x hx=>?_)
  obtain ⟨j,hj,rfl⟩:=Array.mem_iff_getElem.1 hx
  have hj':j < i.flds.length:=by omega
  obtain ⟨fld,h1,h2,⟨inf,h3,h4⟩,_⟩:=g4 j i.flds[j].1 i.flds[j].2 (by rw [List.getElem?_eq_getElem hj'])
  rw [Array.getElem?_eq_getElem hj] at h1
  injection h1 with h1
  rw [h1]
  simp [sizeOf,typeInfo,h3]
 obtain ⟨cells',L',h5,h6,h7,h8,h9⟩:=fill_partsT (E:=E) hs (s:=s) i (fun f=>(fs.map fun f=>(f.offset,((P.info? f.type).map (·.size)).getD 0))[f]?) (by
   intro f off ft hf
   obtain ⟨fld,h1,rfl,⟨inf,h3,h4⟩,_⟩:=g4 f off ft hf
   simp [h1,h3,h4]) (ps.toList.map fun p=>(p.1,st.val p.2)) (ps.toList.map fun p=>(p.1,a.eval p.2)) (i.ty.val i.ty.zcells).cells i.ty.zero (E.tx.shT t) [] [] x sh zs hx
  (by
   generalize ps.toList = l
   induction l with
   | nil=>trivial
   | cons p l ih=>exact ⟨⟨rfl,hs.val p.2⟩,ih⟩) (by rw [hzc]; exact KS_zero _ _ hfit) (by simp) (by simp) (by simp)
 have hrun:(execOp a.eval o).run P w = .ok (.value (.agg cells')) w:=by
  have h10:(Instr.build t (ps.map fun (i,x)=>(i,a.eval x))).run P w = .ok (.agg cells') w:=by
   unfold Instr.build
   simp only [Sem.run_bind,hz,Result.andThen_ok,run_underlying g1,hplaces,List.map_map,Array.toList_map]
   simp only [h5]
   rfl
  simp only [execOp,ho,Sem.run_bind,h10,Result.andThen_ok]
  rfl
 have hval:i.ty.val cells'.toList = .agg cells':=by unfold Ty.val; rw [hy]; simp [Ty.agg]
 obtain ⟨β',hS⟩:=hs.tr_make hfree hs0 (Grow.refl w) (sh:=sh) (t:=i.ty) (x:=x) (u:=.agg cells') (L:=L') zs h9 h7 (fun k hk=>.inr (h8 k hk)) (fun G' hmv=>by
  unfold TrIs
  rw [if_neg (by simp)]
  exact ⟨cells'.toList,hval.symm,KS_step (fun k hk hlt'=>hmv false k hk hlt') (fun _ _=>rfl) h6⟩)
 unfold Oper.wp
 rw [hrun]
 show next (a.put o.dst _) _
 rw [hd]
 refine hn _ β' _ _ ?_ h
 rw [app_make hd]
 exact hS
theorem makeT_sound (he:EnvOk P E) (hs:Sim B okA w0 β st a w) {t:Nat} {x y:Operand} (ho:o.op = .makeSlice t x y) {Kd:Dl→Option ρ} (h:makeT E o st t (st.val x) (st.val y) Kd = some r)
  (hn:∀ δ β' a' w',Sim B okA w0 β' (δ.app o.dst st) a' w'→Kd δ = some r→next a' w'):o.wp P a w next Q:=by
 unfold makeT at h
 split at h
 case h_2=>cases h
 rename_i _ _ _ _ i s fr n fr' m hT hd hx hy
 split at h
 case h_2=>cases h
 rename_i _ _ _ e te sh hty hfree hsh
 split at h
 case h_2=>cases h
 rename_i ie hTe
 split at h
 case isFalse=>cases h
 rename_i hie
 obtain ⟨hie,hpos0,hfit,hs0⟩:=hie
 rcases br_some h with ⟨hb,h⟩ | ⟨_,h⟩
 case inr=>cases h
 have hvx:=hs.val x
 have hvy:=hs.val y
 rw [hx] at hvx
 rw [hy] at hvy
 have ex:=int_of_V hvx
 have ey:=int_of_V hvy
 rw [Bool.and_eq_true,Bool.and_eq_true] at hb
 obtain ⟨⟨hb1,hb2⟩,hb3⟩:=hb
 have hb1:(0:Int)≤n:=of_decide_eq_true hb1
 have hb2:(n:Int) = m:=of_decide_eq_true hb2
 have hb3:n.toNat * ie.bytes≤281474976710656:=of_decide_eq_true hb3
 obtain ⟨N,hN⟩:=Int.eq_ofNat_of_zero_le hb1
 have htoN:n.toNat = N:=by rw [hN]; rfl
 rw [htoN] at hb3 h
 have hte:=he.T _ _ hTe
 obtain ⟨inf,g1,g2,g3,g4⟩:=hte.info
 have hpos:=hte.pos
 have hNm:N≤281474976710656:=Nat.le_trans (Nat.le_mul_of_pos_right _ hpos) hb3
 have hr:=run_make (P:=P) w t e inf (te.val te.zcells) (desc_slice (he.T _ _ hT) hty) g1 (by rw [g4,hie]) .i64 .i64 (N:Int) (N:Int) (by omega) (by omega)
  (by
   have h3:((inf.bytes * N:Nat):Int)≤281474976710656:=by rw [g3,Nat.mul_comm]; omega
   rwa [Int.natCast_mul] at h3) (by omega)
 simp only [Int.toNat_natCast] at hr
 rw [g2,hie] at hr
 have hzc:(te.val te.zcells).cells.toList = te.zcells:=val_cells (zcells_len _) (K_one (K_zero w (fun _=>True) te))
 have hzs:(te.val te.zcells).cells.size = te.sz:=by rw [← Array.length_toList,hzc,zcells_len]
 have hrun:(execOp a.eval o).run P w = .ok (.value (.slice (some ⟨w.heap.size,0,none⟩) N N)) (w.alloc (.cells (madeCells (te.val te.zcells).cells (N * te.sz)) e)):=by
  simp [execOp,ho,ex,ey,← hb2,hN,hr]
 have hmf:=made_flat hzs hpos0 N
 rw [hzc] at hmf
 obtain ⟨β',hS⟩:=hs.tr_make hfree hs0 (Grow.alloc w (.cells (madeCells (te.val te.zcells).cells (N * te.sz)) e)) (sh:=.ow sh) (t:=.slice e te) (x:=(List.replicate N te.zero:List te.T)) (u:=.slice (some ⟨w.heap.size,0,none⟩) N N) (L:=[w.heap.size]) [] (by simp) (by simp) (by simp) (fun G' hmv=>by
   unfold TrIs
   rw [if_neg (by simp)]
   have hfl:((List.replicate N ((te.zcells,[]):List Value × List Nat)).map Prod.fst).flatten = (List.replicate N te.zcells).flatten:=by rw [List.map_replicate]
   have hfs:((List.replicate N ((te.zcells,[]):List Value × List Nat)).map Prod.snd).flatten = []:=by rw [List.map_replicate]; simp
   have hlen:(List.replicate N te.zcells).flatten.length = N * te.sz:=by
    rw [flat_length (sz:=te.sz) (by intro c hc; rw [(List.mem_replicate.1 hc).2]; exact zcells_len te)]; simp
   refine ⟨[.slice (some ⟨w.heap.size,0,none⟩) N N],rfl,_,List.replicate N (te.zcells,[]),rfl,?_,All2.replicate (R:=fun x (r:List Value × List Nat)=>KS _ _ sh te x r.1 r.2) (KS_zero _ _ hfit) N,by rw [hfs]; rfl⟩
   rw [hfl,show List.length (List.replicate N te.zero:List te.T) = N by simp]
   refine ⟨hlen,.inr ⟨w.heap.size,N,_,rfl,Nat.zero_le _,plain_alloc w _ e,Nat.le_refl _,by simp [maxLen]; omega,?_,?_⟩⟩
   ·rw [← Array.length_toList,hmf,hlen]
   ·rw [hmf,← hlen,List.take_length])
 unfold Oper.wp
 rw [hrun]
 show next (a.put o.dst _) _
 rw [hd]
 refine hn _ β' _ _ ?_ h
 have:=app_make (st:=st) hd [] (.tr false (.ow sh) (.slice e te) (List.replicate N te.zero:List te.T)) (.vw s [] 0 (.slice e te))
 simp only [List.map_nil,List.nil_append] at this
 rw [this]
 exact hS
theorem boxT_sound (he:EnvOk P E) (hs:Sim B okA w0 β st a w) {t:Nat} {x:Operand} (ho:o.op = .box t x) {Kd:Dl→Option ρ} {K0:Option ρ} (h:boxT E o st t (st.val x) Kd K0 = some r) (h0:K0 = some r→o.wp P a w next Q)
  (hn:∀ δ β' a' w',Sim B okA w0 β' (δ.app o.dst st) a' w'→Kd δ = some r→next a' w'):o.wp P a w next Q:=by
 have hrun:(execOp a.eval o).run P w = .ok (.value (.pointer (some ⟨w.heap.size,0,none⟩))) (w.alloc (.cells (a.eval x).cells t)):=by
  simp [execOp,ho,Instr.box,newVar,newRow,newObj,Sem.run]
 have hg:=Grow.alloc w (.cells (a.eval x).cells t)
 unfold boxT at h
 split at h
 ·rename_i t' s hA hd
  split at h
  case h_2=>cases h
  rename_i i hT
  split at h
  case isFalse=>cases h
  have hv:=hs.val x
  rw [hA] at hv
  unfold Oper.wp
  rw [hrun]
  show next (a.put o.dst _) _
  refine hn _ β _ _ ?_ h
  have:(Dl.u [] [] (.pb 0 0 t')).app o.dst st = st.set o.dst (.pb 0 0 t'):=by simp [Dl.app,updOb,killD_nil]
  rw [this]
  refine (hs.grow hg).set (A:=.pb 0 0 t') ⟨⟨w.heap.size,0,none⟩,rfl,?_,⟨.inr hs.size,?_,fun h=>by cases h⟩,by simp,hv.2⟩ o.dst
  ·have:=at_row (plain_alloc w (a.eval x).cells t) 0
   rw [← hv.1]
   simpa using this
  ·intro ho'
   have:=(hs.ow_lt ho').2
   simp at this
 ·rename_i s2 t2 s hA hd
  split at h
  case isFalse=>exact h0 h
  split at h
  case h_2=>cases h
  rename_i _ _ i hT hfree
  split at h
  case h_2=>cases h
  rename_i y sh z hone
  split at h
  case isTrue=>cases h
  rename_i hs0
  have hvx:=hs.val x
  rw [hA] at hvx
  obtain ⟨cs,L,hv,hK,hnd,hown,hzs⟩:=oneA_rep hs hvx hone
  have hcl:(a.eval x).cells.toList = cs:=by rw [hv]; exact val_cells (KS_len hK) (KS_one hK)
  have hlt:∀ k∈L,k < w.heap.size:=fun k hk=>(KS_lt hK k hk).1
  obtain ⟨β',hS⟩:=hs.tr_makeB hfree hs0 hg (sh:=sh) (t:=i.ty) (x:=y) (u:=.pointer (some ⟨w.heap.size,0,none⟩)) (L:=w.heap.size :: L) z.toList (fun q hq=>(hzs q hq).2) (by
    rw [List.nodup_cons]
    exact ⟨fun h=>by have:=hlt _ h; omega,hnd⟩) (by
    intro k hk
    rcases List.mem_cons.1 hk with rfl | hk
    ·exact .inl (Nat.le_refl _)
    ·obtain ⟨q,h1,h2⟩:=hown k hk
     exact .inr ⟨q,h1,h2⟩) (fun G' hmv=>by
   unfold TrIs
   rw [if_pos rfl]
   exact ⟨w.heap.size,_,t,L,rfl,rfl,plain_alloc w _ t,by rw [hcl]; exact KS_step (fun k hk hlt'=>hmv false k hk hlt') (fun k hk=>hg.below.block k (hlt k hk)) hK⟩)
  unfold Oper.wp
  rw [hrun]
  show next (a.put o.dst _) _
  rw [hd]
  refine hn _ β' _ _ ?_ h
  rw [app_make hd]
  exact hS
 ·rename_i s hd hnp hnp2
  split at h
  case isFalse=>exact h0 h
  split at h
  case h_2=>cases h
  rename_i _ _ _ i d hT hdt hfree
  split at h
  case isTrue=>cases h
  rename_i hs0
  obtain ⟨cs,hcs,hev⟩:=srcD hdt (hs.val x) (t:=d.t) (y:=d.x) (by simp [Ty.cast?])
  have hcl:(a.eval x).cells.toList = cs:=by rw [hev]; exact val_cells (KS_len hcs) (KS_one hcs)
  unfold Oper.wp
  rw [hrun]
  show next (a.put o.dst _) _
  rw [hd]
  refine hn _ (upd β s (tupV (.pointer (some ⟨w.heap.size,0,none⟩)) [w.heap.size])) _ _ ?_ h
  have:(Dl.u [(s,some (.tr true .fz d.t d.x))] [] (.pt s [] 0 d.t)).app o.dst st = ⟨st.tm.set s (.pt s [] 0 d.t),st.ob.set s (some (.tr true .fz d.t d.x))⟩:=by
   simp [Dl.app,hd,St.set,updOb,killD_nil]
  rw [this]
  refine hs.tr_new hfree hg (u:=.pointer (some ⟨w.heap.size,0,none⟩)) (L:=[w.heap.size]) (by simp) (by simp) (fun hmv=>?_) (fun _=>.inl ⟨rfl,rfl,rfl⟩) hs0
  unfold TrIs
  rw [if_pos rfl]
  exact ⟨w.heap.size,_,t,[],rfl,rfl,plain_alloc w _ t,by rw [hcl]; exact KS_step (fun k hk hlt'=>hmv false k hk hlt') (by simp) hcs⟩
 ·exact h0 h
end
end Go.Fil
/- Calls that write trees. -/
set_option linter.unusedSectionVars false
namespace Go.Fil
open Go.RowKit
set_option linter.unusedVariables false
set_option linter.unusedSimpArgs false
theorem nodup_put2 {A B C D:List Nat} (h:(A ++ (B ++ C)).Nodup) (hD:D.Nodup) (hn:∀ k∈D,k∈B∨k∉A ++ (B ++ C)):(A ++ (D ++ C)).Nodup:=by
 have h0:=h
 rw [List.nodup_append] at h ⊢
 obtain ⟨h1,h2,h3⟩:=h
 rw [List.nodup_append] at h2 ⊢
 obtain ⟨h4,h5,h6⟩:=h2
 have hd:∀ k∈D,k∉A∧k∉C:=by
  intro k hk
  rcases hn k hk with h7 | h7
  ·exact nodup_mid h0 h7
  ·exact ⟨fun h=>h7 (by simp [h]),fun h=>h7 (by simp [h])⟩
 refine ⟨h1,⟨hD,h5,fun a ha b hb e=>(hd a ha).2 (e ▸ hb)⟩,fun a ha b hb e=>?_⟩
 subst e
 rcases List.mem_append.1 hb with hb | hb
 ·exact (hd a hb).1 ha
 ·exact h3 a ha a (by simp [hb]) rfl
section
variable [Lin] {P:Program} {E:Env} {o:Oper} {a:Act} {w:World} {next:Act→World→Prop} {Q:Exit→Act→World→Prop} {B:Nat} {okA:Nat→Prop} {w0:World} {β:Nat→Value} {st:St} {ρ:Type} {r:ρ}
/-- A place whose rows are written by somebody else. -/
theorem root_in {G:Nat→Prop} {bx:Bool} {sh:Sh} {t0:Ty} {x:t0.T} {u:Value} {L rcL:List Nat} {rc:List Value} (hr:RootOk w G bx sh t0 x u L rc rcL)
  {p:List Stp} {off:Nat} {t:Ty} {y:t.T} {s1:Sh} {cy:List Value} (hp:PC w L (rootC w bx u) p off t.sz cy) (hg:getP t0 x p off t = some y) (hsh:shGP sh t0 p off t = some s1) :
  ∃ L1,(∀ k∈L1,k∈L)∧L1.Nodup∧KS w G s1 t y cy L1 ∧
   ∀ {L2:List Nat},L2.Nodup→(∀ k∈L2,k∈L1∨k∉L)→∃ L':List Nat,L'.Nodup∧(∀ k∈L',k∈L∨k∈L2) ∧
   ∀ {w1:World} {G1:Nat→Prop} {y':t.T} {x':t0.T},(∀ k,G k→k < w.heap.size→G1 k∧k < w1.heap.size∧w1.heap[k]? = w.heap[k]?)→(∀ k∈L,k∉L1→w1.heap[k]? = w.heap[k]?)→putP t0 x p off t y' = some x'→KS w1 G1 s1 t y' cy L2 →
    TrIs w1 G1 bx sh t0 x' u L':=by
 have fin:∀ {La L1 Lb:List Nat},rcL = La ++ (L1 ++ Lb)→∀ {L2:List Nat},L2.Nodup→(∀ k∈L2,k∈L1∨k∉L)→∃ L':List Nat,L'.Nodup∧(∀ k∈L',k∈L∨k∈L2) ∧
   ∀ {w1:World} {G1:Nat→Prop} {x':t0.T},(∀ k∈L,k∉L1→w1.heap[k]? = w.heap[k]?)→KS w1 G1 sh t0 x' rc (La ++ (L2 ++ Lb))→TrIs w1 G1 bx sh t0 x' u L':=by
  intro La L1 Lb hrc L2 hn2 hd2
  have hndr:=hr.ndr
  have hsub:=hr.sub
  rw [hrc] at hndr hsub
  have hnd2:=nodup_put2 hndr hn2 (fun k hk=>(hd2 k hk).imp id (fun h h'=>h (hsub k h')))
  cases bx with
  | true =>
   obtain ⟨g,c,e,q1,q2,q3,q4⟩:=hr.box rfl
   have hnd:=hr.nd
   rw [q4,hrc,List.nodup_cons] at hnd
   have hg1:g∉L1:=fun h=>hnd.1 (by simp [h])
   refine ⟨g :: (La ++ (L2 ++ Lb)),?_,?_,?_⟩
   ·rw [List.nodup_cons]
    refine ⟨fun h=>?_,hnd2⟩
    simp only [List.mem_append] at h
    rcases h with h | h | h
    ·exact hnd.1 (by simp [h])
    ·rcases hd2 g h with h5 | h5
     ·exact hg1 h5
     ·exact h5 (by rw [q4]; simp)
    ·exact hnd.1 (by simp [h])
   ·intro k hk
    simp only [List.mem_cons,List.mem_append] at hk
    rcases hk with rfl | hk | hk | hk
    ·exact .inl (by rw [q4]; simp)
    ·exact .inl (hsub k (by simp [hk]))
    ·exact .inr hk
    ·exact .inl (hsub k (by simp [hk]))
   ·intro w1 G1 x' hsame hK
    unfold TrIs
    rw [if_pos rfl]
    exact ⟨g,c,e,_,rfl,q1,by rw [hsame g (by rw [q4]; simp) hg1]; exact q2,by rw [← q3]; exact hK⟩
  | false =>
   obtain ⟨q1,q2⟩:=hr.val rfl
   refine ⟨La ++ (L2 ++ Lb),hnd2,?_,?_⟩
   ·intro k hk
    simp only [List.mem_append] at hk
    rcases hk with hk | hk | hk
    ·exact .inl (hsub k (by simp [hk]))
    ·exact .inr hk
    ·exact .inl (hsub k (by simp [hk]))
   ·intro w1 G1 x' hsame hK
    unfold TrIs
    rw [if_neg (by simp)]
    exact ⟨rc,q1,hK⟩
 have hnm:∀ {La L1 Lb:List Nat},rcL = La ++ (L1 ++ Lb)→L1.Nodup:=by
  intro La L1 Lb h
  have:=hr.ndr
  rw [h,List.nodup_append] at this
  have:=this.2.1
  rw [List.nodup_append] at this
  exact this.1
 have hrest:∀ {La L1 Lb:List Nat},rcL = La ++ (L1 ++ Lb)→∀ k∈La ++ Lb,k∈L∧k∉L1:=by
  intro La L1 Lb h k hk
  refine ⟨hr.sub k (by rw [h]; simp only [List.mem_append] at hk ⊢; rcases hk with hk | hk <;> simp [hk]),fun h1=>?_⟩
  have:=nodup_mid (h ▸ hr.ndr) h1
  rcases List.mem_append.1 hk with hk | hk
  ·exact this.1 hk
  ·exact this.2 hk
 rcases hp with ⟨rfl,hcy⟩ | ⟨g,q,cur,e,fz,hpl,hgc,hcy⟩
 ·rw [hr.root] at hcy
  subst hcy
  obtain ⟨La,L1,Lb,hrc,h3,h4,h5⟩:=KS_focus hg hsh hr.ks
  refine ⟨L1,fun k hk=>hr.sub k (by rw [hrc]; simp [hk]),hnm hrc,h4,?_⟩
  intro L2 k5 k6
  obtain ⟨L',n1,n2,n3⟩:=fin hrc k5 k6
  refine ⟨L',n1,n2,?_⟩
  intro w1 G1 y' x' k1 k2 k3 k4
  have hcs:rc.take off ++ (rc.drop off).take t.sz ++ rc.drop (off + t.sz) = rc:=by
   rw [List.append_assoc]
   have:(rc.drop off).take t.sz ++ rc.drop (off + t.sz) = rc.drop off:=by
    rw [← List.drop_drop]; exact List.take_append_drop _ _
   rw [this,List.take_append_drop]
  have m1:=h5 k1 (fun k hk=>k2 k (hrest hrc k hk).1 (hrest hrc k hk).2) k3 k4
  rw [hcs] at m1
  exact n3 k2 (KS_same hsh hr.ks m1)
 ·rw [hr.root] at hpl
  obtain ⟨La,L1,Lb,cur',e',hrc,hgm,hgc',hle,h4,h5⟩:=KS_path p hr.ks hr.ndr hpl hg hsh
  rw [hgc] at hgc'
  injection hgc' with hgc'
  injection hgc' with e1 e2 e3
  subst e1; subst e2; subst e3
  subst hcy
  refine ⟨L1,fun k hk=>hr.sub k (by rw [hrc]; simp [hk]),hnm hrc,h4,?_⟩
  intro L2 k5 k6
  obtain ⟨L',n1,n2,n3⟩:=fin hrc k5 k6
  refine ⟨L',n1,n2,?_⟩
  intro w1 G1 y' x' k1 k2 k3 k4
  have hcs:cur.toList.take q ++ (cur.toList.drop q).take t.sz ++ cur.toList.drop (q + t.sz) = cur.toList:=by
   rw [List.append_assoc]
   have:(cur.toList.drop q).take t.sz ++ cur.toList.drop (q + t.sz) = cur.toList.drop q:=by
    rw [← List.drop_drop]; exact List.take_append_drop _ _
   rw [this,List.take_append_drop]
  have hgr:=hrest hrc g (by simp [hgm])
  exact n3 k2 (h5 k1 (fun k hk _=>k2 k (hrest hrc k hk).1 (hrest hrc k hk).2) (by rw [k2 g hgr.1 hgr.2]; exact hgc) hcs.symm k3 k4)
/-- A tree turns, by somebody who writes its blocks. -/
theorem Sim.tr_turn (hs:Sim B okA w0 β st a w) {s:Nat} {bx:Bool} {sh:Sh} {t0:Ty} {x:t0.T} (hob:St.obj st.ob s = some (.tr bx sh t0 x)) {u:Value} {L:List Nat} (hb:β s = tupV u L) {w1:World} (hf:BelowM (fun k=>k∈L) w.heap.size w w1)
  {sh':Sh} {x':t0.T} {L':List Nat} (hn:L'.Nodup) (hL:∀ k∈L',k∈L∨w.heap.size≤k)
  (hT:∀ G':Nat→Prop,(∀ k,okD w B okA β st.ob false k→k < w.heap.size→G' k∧k < w1.heap.size∧w1.heap[k]? = w.heap[k]?)→(∀ k,w.heap.size≤k→k∉L'→G' k)→TrIs w1 G' bx sh' t0 x' u L') :
  Sim B okA w0 (upd β s (tupV u L')) ⟨killD [s] st.tm,st.ob.set s (some (.tr bx sh' t0 x'))⟩ a w1:=by
 have hlt:=lt_of_obj hob
 have hO:∀ i,St.obj (st.ob.set s (some (.tr bx sh' t0 x'))) i = if s = i then some (.tr bx sh' t0 x') else St.obj st.ob i:=by
  intro i
  rw [obj_set]
  by_cases e1:s = i <;> simp [e1,hlt]
  intro h; omega
 refine hs.change (fun i=>i = s) ⟨hf.os,hf.tape,hf.output,hf.size,fun k hk hnk=>hf.block k hk (fun h=>hnk ⟨s,_,rfl,hob,by rw [hb]; exact owns_tup.2 h⟩)⟩ (by simp [killD,hs.len]) hs.defers ?_ ?_ ?_ ?_ ?_ ?_ ?_ ?_
 ·intro i hi
  have e1:s≠i:=fun e=>hi e.symm
  exact ⟨by rw [hO,if_neg e1],by simp [upd,Ne.symm e1]⟩
 ·rintro i o' rfl ho' e1 t1 xs1 rfl
  rw [hob] at ho'; cases ho'
 ·rintro i o' rfl ho' e1 t1 xs1 rfl
  rw [hO,if_pos rfl] at ho'; cases ho'
 ·rintro i o' k rfl ho' hk
  simp only [upd,if_true] at hk
  rcases hL k (owns_tup.1 hk) with h5 | h5
  ·exact .inr ⟨i,_,rfl,hob,by rw [hb]; exact owns_tup.2 h5⟩
  ·exact .inl h5
 ·rintro i i' o1 o2 k rfl rfl _ _ _ _
  rfl
 ·rintro hmv i o' rfl ho'
  rw [hO,if_pos rfl] at ho'
  injection ho' with ho'
  subst ho'
  simp only [upd,if_true]
  refine RepO_tr (hT _ (hmv false) ?_) hn ?_
  ·intro k hk hkL
   refine ⟨.inr (Nat.le_trans hs.size hk),?_,fun h=>by cases h⟩
   rintro ⟨s',o',h6,h7⟩
   rw [hO] at h6
   by_cases es:i = s'
   ·subst es
    simp only [upd,if_true] at h7
    exact hkL (owns_tup.1 h7)
   ·rw [if_neg es] at h6
    have h7:owns (β s') k:=by simpa [upd,Ne.symm es] using h7
    have:=((hs.ob s' o' h6).lt h7).2
    omega
  ·intro k hk
   rcases hL k hk with h5 | h5
   ·exact ((hs.ob i _ hob).lt (by rw [hb]; exact owns_tup.2 h5)).1
   ·exact .inl (Nat.le_trans hs.size h5)
 ·intro hmv i A' hA'
  rcases killD_get hA' with rfl | ⟨hA',hd⟩
  ·exact .inl trivial
  ·have hrep:=hs.tm i A' hA'
   by_cases hsite:A'.site = some s
   ·obtain ⟨off',t'',u',L'',g',rfl,rfl,hb',hu,hvv⟩:=kill_rep hob hrep hsite (hd s (by simp))
    rw [hb] at hb'
    obtain ⟨rfl,rfl⟩:=tup_inj hb'
    refine .inl ?_
    rw [hvv]
    exact ⟨u,L',true,sh',t0,x',by simp [upd],by rw [hO,if_pos rfl],.inl ⟨rfl,rfl,g',hu,rfl⟩⟩
   ·refine .inr ⟨hrep,fun s' hs1 hs2=>hsite ?_⟩
    rw [hs1,hs2]
 ·rintro h0 rfl bx3 sh3 t3 x3 h1
  rw [hO,if_pos rfl] at h1
  obtain ⟨rfl,_,_⟩:=tr_inj h1
  obtain ⟨L3,hL3⟩:=hs.pin h0 _ _ _ _ hob
  rw [hb] at hL3
  exact ⟨L',by simp [upd,(tup_inj hL3).1]⟩
theorem callX_sound (he:EnvOk P E) (hs:Sim B okA w0 β st a w) {c:Call} {f:FuncId} (ho:o.op = .call c) (hc:c.callee = .value (.func f)) {Kd:Dl→Option ρ} {K0:Option ρ} (h:callX E o st f (c.args.toList.map st.val) Kd K0 = some r) (h0:K0 = some r→o.wp P a w next Q)
  (hn:∀ δ β' a' w',Sim B okA w0 β' (δ.app o.dst st) a' w'→Kd δ = some r→next a' w'):o.wp P a w next Q:=by
 unfold callX at h
 split at h
 case h_2=>exact h0 h
 rename_i s p off t' fr k hargs
 split at h
 case h_2=>exact h0 h
 rename_i bx sh t0 x hob
 split at h
 case h_2=>exact h0 h
 rename_i _ _ y s1 hg hsh
 split at h
 case h_2=>exact h0 h
 rename_i hx hX
 obtain ⟨r0,hr0,h⟩:=Option.bind_eq_some_iff.1 h
 split at h
 case h_2=>cases h
 rename_i x' hput
 have h:Kd (.u [(s,some (.tr bx sh t0 x'))] [s] (.d (.int .i64) true r0.1)) = some r:=h
 obtain ⟨x1,x2,hargs',hA1,hA2⟩:∃ x1 x2,c.args.toList = [x1,x2]∧st.val x1 = .vw s p off t'∧st.val x2 = .d (.int .i64) fr k:=by
  revert hargs
  generalize c.args.toList = l
  intro hargs
  cases l with
  | nil=>simp at hargs
  | cons x1 l =>
   cases l with
   | nil=>simp at hargs
   | cons x2 l =>
    cases l with
    | nil =>
     simp only [List.map_cons,List.map_nil,List.cons.injEq,and_true] at hargs
     exact ⟨x1,x2,rfl,hargs.1,hargs.2⟩
    | cons _ _=>simp at hargs
 have hv1:=hs.val x1
 have hv2:=hs.val x2
 rw [hA1] at hv1
 rw [hA2] at hv2
 have e2:=int_of_V hv2
 have hok:=he.TX _ _ _ _ hX _ _ _ hr0
 obtain ⟨fn,g1,g2,g3⟩:=hok.fn
 have hrun:(execOp a.eval o).run P w = .ok (.enter f #[a.eval x1,a.eval x2]) w:=by
  have h3:c.args = #[x1,x2]:=by rw [← hargs']
  simp [execOp,ho,h3,resolve,hc,Act.eval,Deferred.ofValue,invoke,callFunc,program,Sem.run,g1,g2,g3]
 unfold Oper.wp
 rw [hrun]
 show Calls P f _ w _
 obtain ⟨u,L,bx',sh',t0',x'',cs,hb,hob',hin,hpc,hev⟩:=hv1
 rw [hob] at hob'
 obtain ⟨rfl,rfl,rfl,hx⟩:=tr_inj hob'
 have hx:x = x'':=hx
 subst hx
 obtain ⟨rc,Lr,hr⟩:=hs.root hob hb
 obtain ⟨L1,k1,k2,k3,k4⟩:=root_in hr hpc hg hsh
 have how:∀ k∈L,Ow β st.ob k:=fun k hk=>⟨s,_,hob,by rw [hb]; exact owns_tup.2 hk⟩
 have hgo:=hok.goes w (fun k=>okD w B okA β st.ob false k∧k < w.heap.size) cs L1 (fun k hk=>⟨hk.2,fun h=>hk.1.2.1 (how k (k1 k h))⟩) (KS_step (fun k hk hlt=>⟨⟨hk,hlt⟩,hlt,rfl⟩) (fun _ _=>rfl) k3) k2
 rw [hev,e2]
 refine hgo.mono ?_
 rintro e1 w1 ⟨rfl,⟨L2,m1,m2,m3⟩,hbel⟩
 have hd2:∀ k∈L2,k∈L1∨k∉L:=by
  intro k hk
  rcases m3 k hk with h5 | h5
  ·exact .inl h5
  ·refine .inr (fun h6=>?_)
   have:=((hs.ob s _ hob).lt (by rw [hb]; exact owns_tup.2 h6)).2
   omega
 have hsz:=hbel.size
 obtain ⟨L',n2,n3,n1⟩:=k4 m2 hd2
 have hS:=hs.tr_turn (w1:=w1) hob hb (sh':=sh) (x':=x') (L':=L') ⟨hbel.os,hbel.tape,hbel.output,hbel.size,fun k hk hkn=>hbel.block k hk (fun h=>hkn (k1 k h))⟩ n2 (fun k hk=>by
   rcases n3 k hk with h5 | h5
   ·exact .inl h5
   ·rcases m3 k h5 with h6 | h6
    ·exact .inl (k1 k h6)
    ·exact .inr h6) (fun G' hG hG2=>by
   refine n1 hG (fun k hk hkn=>hbel.block k ((hs.ob s _ hob).lt (by rw [hb]; exact owns_tup.2 hk)).2 hkn) hput (KS_step (fun k hk hlt=>⟨?_,hlt,rfl⟩) (fun _ _=>rfl) m1)
   rcases hk.1 with h5 | h5
   ·exact (hG k h5.1 h5.2).1
   ·refine hG2 k h5 (fun h6=>?_)
    rcases n3 k h6 with h7 | h7
    ·have:=((hs.ob s _ hob).lt (by rw [hb]; exact owns_tup.2 h7)).2
     omega
    ·exact hk.2 h7)
 have:=hS.set (A:=.d (.int .i64) true r0.1) (v:=.int .i64 r0.1) (V_int _ _) o.dst
 exact hn _ _ _ _ (by simpa [Dl.app,updOb] using this) h
theorem callP_sound (he:EnvOk P E) (hs:Sim B okA w0 β st a w) {c:Call} {f:FuncId} (ho:o.op = .call c) (hc:c.callee = .value (.func f)) {Kd:Dl→Option ρ} {K0:Option ρ} (h:callP E o st f c.argTypes.toList (c.args.toList.map st.val) Kd K0 = some r) (h0:K0 = some r→o.wp P a w next Q)
  (hn:∀ δ β' a' w',Sim B okA w0 β' (δ.app o.dst st) a' w'→Kd δ = some r→next a' w'):o.wp P a w next Q:=by
 unfold callP at h
 split at h
 case h_2=>exact h0 h
 rename_i _ _ _ ts s t' as_ hts hargs
 split at h
 case h_2=>cases h
 rename_i _ _ sh t0 x ds hob hds
 split at h
 case h_2=>cases h
 rename_i r0 hP
 split at h
 case isFalse=>cases h
 rename_i ht
 subst ht
 obtain ⟨x',hx',h⟩:=Option.bind_eq_some_iff.1 h
 obtain ⟨x1,xs,hargs',hA1,rfl⟩:∃ x1 xs,c.args.toList = x1 :: xs∧st.val x1 = .pt s [] 0 t'∧as_ = xs.map st.val:=by
  revert hargs
  generalize c.args.toList = l
  intro hargs
  cases l with
  | nil=>simp at hargs
  | cons x1 l =>
   simp only [List.map_cons,List.cons.injEq] at hargs
   exact ⟨x1,l,rfl,hargs.1,hargs.2.symm⟩
 have hv1:=hs.val x1
 rw [hA1] at hv1
 have hvs:=dts_V he hs hds
 have hok:=he.TP _ _ _ _ _ _ _ hP hx'
 obtain ⟨fn,g1,g2,g3⟩:=hok.fn
 have hrun:(execOp a.eval o).run P w = .ok (.enter f (a.eval x1 :: xs.map a.eval).toArray) w:=by
  have h3:(c.args.toList.map a.eval).toArray = c.args.map a.eval:=by
   apply Array.ext'; simp
  rw [hargs'] at h3
  rw [show (a.eval x1 :: xs.map a.eval) = (x1 :: xs).map a.eval from rfl,h3]
  simp [execOp,ho,resolve,hc,Act.eval,Deferred.ofValue,invoke,callFunc,program,Sem.run,g1,g2,g3]
 unfold Oper.wp
 rw [hrun]
 show Calls P f _ w _
 obtain ⟨u,L,bx',sh',t0',x'',hb,hob',hpt⟩:=hv1
 rw [hob] at hob'
 obtain ⟨rfl,rfl,rfl,hx⟩:=tr_inj hob'
 have hx:x = x'':=hx
 subst hx
 obtain ⟨rc,Lr,hr⟩:=hs.root hob hb
 obtain ⟨g,cs,e,q1,q2,q3,q4⟩:=hr.box rfl
 have hev:a.eval x1 = .pointer (some ⟨g,0,none⟩):=by
  rcases hpt with ⟨_,_,g',h5,h6⟩ | ⟨_,g',q,h5,_⟩
  ·rw [h6,← h5,q1]
  ·exact h5.elim
 have how:∀ k∈L,Ow β st.ob k:=fun k hk=>⟨s,_,hob,by rw [hb]; exact owns_tup.2 hk⟩
 have hlt:∀ k∈L,k < w.heap.size:=fun k hk=>((hs.ob s _ hob).lt (by rw [hb]; exact owns_tup.2 hk)).2
 have hks:=hr.ks
 rw [q3] at hks
 have hnd:=hr.nd
 rw [q4] at hnd
 have hgo:=hok.goes w (fun k=>okD w B okA β st.ob false k∧k < w.heap.size) g cs e Lr (xs.map a.eval) (fun k hk=>⟨hk.2,fun h=>hk.1.2.1 (how k (by rw [q4]; exact h))⟩) q2 (KS_step (fun k hk hlt=>⟨⟨hk,hlt⟩,hlt,rfl⟩) (fun _ _=>rfl) hks) hnd (hvs.imp (fun d v hv=>V_step (fun k hk hlt=>⟨⟨hk,hlt⟩,hlt,rfl⟩) hv))
 rw [hev]
 refine hgo.mono ?_
 rintro e1 w1 ⟨v,rfl,⟨cs',e',L2,m0,m1,m2,m3⟩,hbel⟩
 have hsz:=hbel.size
 have hS:=hs.tr_turn (w1:=w1) hob hb (sh':=r0.sh) (x':=x') (L':=g :: L2) ⟨hbel.os,hbel.tape,hbel.output,hbel.size,fun k hk hkn=>hbel.block k hk (fun h=>hkn (by rw [q4]; exact h))⟩ m2 (fun k hk=>by
   rcases List.mem_cons.1 hk with rfl | hk
   ·exact .inl (by rw [q4]; simp)
   ·rcases m3 k hk with h5 | h5
    ·exact .inl (by rw [q4]; simp [h5])
    ·exact .inr h5) (fun G' hG hG2=>by
   unfold TrIs
   rw [if_pos rfl]
   refine ⟨g,cs',e',L2,rfl,q1,m0,KS_step (fun k hk hlt=>⟨?_,hlt,rfl⟩) (fun _ _=>rfl) m1⟩
   rcases hk.1 with h5 | h5
   ·exact (hG k h5.1 h5.2).1
   ·exact hG2 k h5 hk.2)
 refine hn (.u [(s,some (.tr true r0.sh t' x'))] [s] .und) (upd β s (tupV u (g :: L2))) _ _ ?_ h
 exact hS.set (A:=.und) trivial o.dst
theorem callQ_sound (he:EnvOk P E) (hs:Sim B okA w0 β st a w) {c:Call} {f:FuncId} (ho:o.op = .call c) (hc:c.callee = .value (.func f)) {Kd:Dl→Option ρ} {K0:Option ρ} (h:callQ E o st f c.argTypes.toList (c.args.toList.map st.val) Kd K0 = some r) (h0:K0 = some r→o.wp P a w next Q)
  (hn:∀ δ β' a' w',Sim B okA w0 β' (δ.app o.dst st) a' w'→Kd δ = some r→next a' w'):o.wp P a w next Q:=by
 unfold callQ at h
 split at h
 case h_2=>exact h0 h
 rename_i _ _ _ ts s t' as_ hts hargs
 split at h
 case h_2=>exact h0 h
 rename_i _ _ sh t0 x ds hob hds
 split at h
 case h_2=>exact h0 h
 rename_i r0 hP
 split at h
 case isFalse=>cases h
 rename_i ht
 subst ht
 obtain ⟨x',hx',h⟩:=Option.bind_eq_some_iff.1 h
 obtain ⟨x1,xs,hargs',hA1,rfl⟩:∃ x1 xs,c.args.toList = x1 :: xs∧st.val x1 = .pt s [] 0 t'∧as_ = xs.map st.val:=by
  revert hargs
  generalize c.args.toList = l
  intro hargs
  cases l with
  | nil=>simp at hargs
  | cons x1 l =>
   simp only [List.map_cons,List.cons.injEq] at hargs
   exact ⟨x1,l,rfl,hargs.1,hargs.2.symm⟩
 have hv1:=hs.val x1
 rw [hA1] at hv1
 have hvs:=dts_V he hs hds
 have hok:=he.TQ _ _ _ _ _ _ _ hP hx'
 obtain ⟨fn,g1,g2,g3⟩:=hok.fn
 have hrun:(execOp a.eval o).run P w = .ok (.enter f (a.eval x1 :: xs.map a.eval).toArray) w:=by
  have h3:(c.args.toList.map a.eval).toArray = c.args.map a.eval:=by
   apply Array.ext'; simp
  rw [hargs'] at h3
  rw [show (a.eval x1 :: xs.map a.eval) = (x1 :: xs).map a.eval from rfl,h3]
  simp [execOp,ho,resolve,hc,Act.eval,Deferred.ofValue,invoke,callFunc,program,Sem.run,g1,g2,g3]
 unfold Oper.wp
 rw [hrun]
 show Calls P f _ w _
 obtain ⟨u,L,bx',sh',t0',x'',hb,hob',hpt⟩:=hv1
 rw [hob] at hob'
 obtain ⟨rfl,rfl,rfl,hx⟩:=tr_inj hob'
 have hx:x = x'':=hx
 subst hx
 obtain ⟨rc,Lr,hr⟩:=hs.root hob hb
 obtain ⟨g,cs,e,q1,q2,q3,q4⟩:=hr.box rfl
 have hev:a.eval x1 = .pointer (some ⟨g,0,none⟩):=by
  rcases hpt with ⟨_,_,g',h5,h6⟩ | ⟨_,g',q,h5,_⟩
  ·rw [h6,← h5,q1]
  ·exact h5.elim
 have how:∀ k∈L,Ow β st.ob k:=fun k hk=>⟨s,_,hob,by rw [hb]; exact owns_tup.2 hk⟩
 have hlt:∀ k∈L,k < w.heap.size:=fun k hk=>((hs.ob s _ hob).lt (by rw [hb]; exact owns_tup.2 hk)).2
 have hks:=hr.ks
 rw [q3] at hks
 have hnd:=hr.nd
 rw [q4] at hnd
 have hgo:=hok.goes w (fun k=>okD w B okA β st.ob false k∧k < w.heap.size) g cs e Lr (xs.map a.eval) (fun k hk=>⟨hk.2,fun h=>hk.1.2.1 (how k (by rw [q4]; exact h))⟩) q2 (KS_step (fun k hk hlt=>⟨⟨hk,hlt⟩,hlt,rfl⟩) (fun _ _=>rfl) hks) hnd (hvs.imp (fun d v hv=>V_step (fun k hk hlt=>⟨⟨hk,hlt⟩,hlt,rfl⟩) hv))
 rw [hev]
 refine hgo.mono ?_
 rintro e1 w1 ⟨v,rfl,⟨cs',e',L2,m0,m1,m2,m3,g2,q0,m4,m5⟩,hbel⟩
 have hsz:=hbel.size
 have hS:=hs.tr_turn (w1:=w1) hob hb (sh':=sh) (x':=x') (L':=g :: L2) ⟨hbel.os,hbel.tape,hbel.output,hbel.size,fun k hk hkn=>hbel.block k hk (fun h=>hkn (by rw [q4]; exact h))⟩ m2 (fun k hk=>by
   rcases List.mem_cons.1 hk with rfl | hk
   ·exact .inl (by rw [q4]; simp)
   ·rcases m3 k hk with h5 | h5
    ·exact .inl (by rw [q4]; simp [h5])
    ·exact .inr h5) (fun G' hG hG2=>by
   unfold TrIs
   rw [if_pos rfl]
   refine ⟨g,cs',e',L2,rfl,q1,m0,KS_step (fun k hk hlt=>⟨?_,hlt,rfl⟩) (fun _ _=>rfl) m1⟩
   rcases hk.1 with h5 | h5
   ·exact (hG k h5.1 h5.2).1
   ·exact hG2 k h5 hk.2)
 refine hn (.u [(s,some (.tr true sh t' x'))] [s] (.pt s r0.1.1 r0.1.2.1 r0.1.2.2)) (upd β s (tupV u (g :: L2))) _ _ ?_ h
 have hlt2:=lt_of_obj hob
 refine hS.set (A:=.pt s r0.1.1 r0.1.2.1 r0.1.2.2) ⟨u,g :: L2,true,sh,t',x',by simp [upd],by rw [obj_set]; simp [hlt2],.inr ⟨fun _ ad had=>?_,g2,q0,?_,m5⟩⟩ o.dst
 ·rw [q1] at had
  injection had with had
  injection had with had
  rw [← had]
  simp
 ·have:rootC w1 true u = cs'.toList:=by rw [q1]; simp [rootC,m0]
  rw [this]
  exact m4
theorem tre_sound (he:EnvOk P E) (hs:Sim B okA w0 β st a w) {Kd:Dl→Option ρ} {K0:Option ρ} (h:treK E o st Kd K0 = some r) (h0:K0 = some r→o.wp P a w next Q)
  (hn:∀ δ β' a' w',Sim B okA w0 β' (δ.app o.dst st) a' w'→Kd δ = some r→next a' w'):o.wp P a w next Q:=by
 cases ho:o.op with
 | move x =>
  simp only [treK,ho] at h
  split at h
  case h_2=>exact h0 h
  rename_i t hA
  split at h
  case h_2=>cases h
  rename_i sh t0 x0 hob
  split at h
  case isFalse=>cases h
  rename_i ht
  subst ht
  have hv:=hs.val x
  rw [hA] at hv
  obtain ⟨L,hb⟩:=hs.pin hv.2 _ _ _ _ hob
  obtain ⟨rc,Lr,hr⟩:=hs.root hob hb
  have hrun:(execOp a.eval o).run P w = .ok (.value (a.eval x)) w:=by simp [execOp,ho]
  refine wp_value hrun (hn (.u [] [] (.vw 0 [] 0 t0)) β _ _ ?_ h)
  have:(Dl.u [] [] (.vw 0 [] 0 t0)).app o.dst st = st.set o.dst (.vw 0 [] 0 t0):=by simp [Dl.app,updOb,killD_nil]
  rw [this]
  refine hs.set (A:=.vw 0 [] 0 t0) ⟨_,L,false,sh,t0,x0,rc,hb,hob,hr.inL,.inl ⟨rfl,?_⟩,?_⟩ o.dst
  ·rw [hr.root,List.drop_zero,← KS_len hr.ks,List.take_length]
  ·rw [hv.1]; exact (hr.val rfl).1
 | alloc t =>
  simp only [treK,ho] at h
  split at h
  case h_2=>exact h0 h
  rename_i s hd
  split at h
  case isFalse=>exact h0 h
  split at h
  case h_2=>cases h
  rename_i _ _ i hT hfree
  split at h
  case isFalse=>cases h
  rename_i hf
  refine allocT_sound he hs ho hd hT hfree hf.2 hf.1 (fun β' a' w' hS=>hn (.u [(s,some (.tr true (E.tx.shT t) i.ty i.ty.zero))] [] (.pt s [] 0 i.ty)) β' a' w' ?_ h)
  have:(Dl.u [(s,some (.tr true (E.tx.shT t) i.ty i.ty.zero))] [] (.pt s [] 0 i.ty)).app o.dst st = ⟨st.tm.set s (.pt s [] 0 i.ty),st.ob.set s (some (.tr true (E.tx.shT t) i.ty i.ty.zero))⟩:=by
   simp [Dl.app,hd,St.set,updOb,killD_nil]
  rw [this]
  exact hS
 | box t x =>
  simp only [treK,ho] at h
  exact boxT_sound he hs ho h h0 hn
 | build t ps =>
  simp only [treK,ho] at h
  split at h
  case h_2=>exact h0 h
  split at h
  case isFalse=>exact h0 h
  exact buildT_sound he hs ho h hn
 | buildSlice t n ps =>
  simp only [treK,ho] at h
  split at h
  case h_2=>exact h0 h
  split at h
  case isFalse=>exact h0 h
  exact litT_sound he hs ho h hn
 | makeSlice t x y =>
  simp only [treK,ho] at h
  split at h
  case h_2=>exact h0 h
  split at h
  case isFalse=>exact h0 h
  exact makeT_sound he hs ho h hn
 | store t pa x =>
  simp only [treK,ho] at h
  split at h
  ·rename_i s p off t' hA
   exact storeT_sound he hs ho hA h hn
  ·exact h0 h
 | call c =>
  simp only [treK,ho] at h
  split at h
  ·rename_i f hc
   exact callQ_sound he hs ho hc h (fun h=>callP_sound he hs ho hc h (fun h=>callX_sound he hs ho hc h (fun h=>by
    split at h
    ·exact h0 h
    ·exact callF_sound he hs ho hc h (fun h=>callT_sound he hs ho hc h h0 hn) hn) hn) hn) hn
  ·rename_i hc
   split at h
   ·rename_i x y t t' ha hat
    split at h
    ·rename_i s off tv hA
     exact appT_sound he hs ho hc ha hat hA h hn
    ·exact h0 h
   ·exact h0 h
  ·exact h0 h
 | _=>exact h0 (by simpa only [treK,ho] using h)
end
end Go.Fil
/- Elements taken out of a row, one by one; a box's content taken out. -/
set_option linter.unusedSectionVars false
namespace Go.Fil
open Go.RowKit
set_option linter.unusedVariables false
set_option linter.unusedSimpArgs false
/-- Element i taken out: it is a tree of its own, and the rest is a row whose elements up to i are taken out. -/
theorem KS_cut {w:World} {ok:Nat→Prop} {s:Sh} {n:Int} {e:Nat} {t:Ty} {xs:List t.T} {cs:List Value} {L:List Nat} (h:KS w ok (.ct s n) (.slice e t) xs cs L) (hnd:L.Nodup) {g m c:Nat} (hc:cs[0]? = some (.slice (some ⟨g,0,none⟩) m c)) {j:Int} (hj:0≤j) (hi:j.toNat < m) (hni:n≤j) (z:t.T) :
  ∃ (cur:Array Value) (L1 L':List Nat),w.heap[g]? = some (.cells cur e (0,0))∧KS w ok s t (xs.getD j.toNat z) ((cur.toList.drop (j.toNat * t.sz)).take t.sz) L1∧KS w ok (.ct s (j + 1)) (.slice e t) xs cs L'∧L1.Nodup∧L'.Nodup∧(∀ k∈L1,k∈L∧k∉L')∧∀ k∈L',k∈L:=by
 obtain ⟨v,rs,rfl,hr,ha,rfl⟩:=h
 simp only [List.getElem?_cons_zero,Option.some.injEq] at hc
 subst hc
 have hr0:=hr
 rcases hr.2 with ⟨h1,_⟩ | ⟨g',cap,cur,h1,_,hg,hn,hcap,hsz,hcs⟩
 ·cases h1
 injection h1 with h1 h2 h3
 injection h1 with h1
 injection h1 with h1
 subst h1; subst h2; subst h3
 have hl:List.length xs = rs.length:=by have:=ha.length; rwa [List.length_zipIdx] at this
 have hri:rs[j.toNat]? = some rs[j.toNat]:=List.getElem?_eq_getElem (by omega)
 have hxi:(List.zipIdx xs)[j.toNat]? = some (xs[j.toNat],j.toNat):=by simp [List.getElem?_zipIdx,List.getElem?_eq_getElem hi]
 have hel:=ha.get hxi hri
 rw [if_neg (show ¬ j.toNat < n.toNat by omega)] at hel
 have hrl:∀ c∈rs.map Prod.fst,c.length = t.sz:=by
  intro c hc
  obtain ⟨r,hr1,rfl⟩:=List.mem_map.1 hc
  obtain ⟨x,_,hx⟩:=ha.mem r hr1
  by_cases hcc:x.2 < n.toNat
  ·rw [if_pos hcc] at hx; exact hx.2.1
  ·rw [if_neg hcc] at hx; exact KS_len hx
 have hfi:(rs.map Prod.fst)[j.toNat]? = some rs[j.toNat].1:=by simp [hri]
 have hle:j.toNat * t.sz + t.sz≤List.length xs * t.sz:=by
  have:=Nat.mul_le_mul_right t.sz hi
  rw [Nat.succ_mul] at this; exact this
 have hr1:rs[j.toNat].1 = (cur.toList.drop (j.toNat * t.sz)).take t.sz:=by
  have:=flat_get hrl hfi
  rw [← hcs] at this
  rw [← this,List.drop_take,List.take_take,Nat.min_eq_left (by omega)]
 have hL:=flat_at Prod.snd hri
 obtain ⟨rs',hrs'⟩:∃ rs',rs' = (rs.take (j.toNat + 1)).map (fun r=>((r.1,[]):List Value × List Nat)) ++ rs.drop (j.toNat + 1):=⟨_,rfl⟩
 have hf1:rs'.map Prod.fst = rs.map Prod.fst:=by
  rw [hrs',List.map_append,List.map_map]
  have:(Prod.fst ∘ fun r:List Value × List Nat=>((r.1,[]):List Value × List Nat)) = Prod.fst:=rfl
  rw [this,← List.map_append,List.take_append_drop]
 have hf2:(rs'.map Prod.snd).flatten = ((rs.drop (j.toNat + 1)).map Prod.snd).flatten:=by
  rw [hrs',List.map_append,List.flatten_append,List.map_map]
  have:((rs.take (j.toNat + 1)).map (Prod.snd ∘ fun r:List Value × List Nat=>((r.1,[]):List Value × List Nat))).flatten = []:=by
   rw [List.flatten_eq_nil_iff]
   intro l hl
   obtain ⟨r,_,rfl⟩:=List.mem_map.1 hl
   rfl
  rw [this,List.nil_append]
 rw [hL] at hnd
 have hnd2:(([g] ++ ((rs.take j.toNat).map Prod.snd).flatten) ++ (rs[j.toNat].2 ++ ((rs.drop (j.toNat + 1)).map Prod.snd).flatten)).Nodup:=by simpa [Value.ownBlock] using hnd
 refine ⟨cur,rs[j.toNat].2,g :: (rs'.map Prod.snd).flatten,hg,?_,?_,?_,?_,?_,?_⟩
 ·rw [← hr1,List.getD_eq_getElem?_getD,List.getElem?_eq_getElem hi]
  exact hel
 ·refine ⟨_,rs',rfl,by rw [hf1]; exact hr0,All2.of_get ?_ ?_,rfl⟩
  ·rw [List.length_zipIdx,hl,← List.length_map (f:=Prod.fst) (as:=rs),← hf1,List.length_map]
  ·intro i x r hx hr'
   rw [List.getElem?_zipIdx,Option.map_eq_some_iff] at hx
   obtain ⟨x0,hx,rfl⟩:=hx
   have hlt:=(List.getElem?_eq_some_iff.1 hx).1
   have hx':(List.zipIdx xs)[i]? = some (x0,i):=by simp [List.getElem?_zipIdx,hx]
   have hri2:rs[i]? = some rs[i]:=List.getElem?_eq_getElem (by omega)
   have h0:=ha.get hx' hri2
   rw [hrs'] at hr'
   simp only [Nat.zero_add]
   by_cases hc:i < (j + 1).toNat
   ·rw [if_pos hc]
    rw [List.getElem?_append_left (by simp; omega),List.getElem?_map,List.getElem?_take,if_pos (by omega),hri2] at hr'
    simp only [Option.map_some,Option.some.injEq] at hr'
    subst hr'
    by_cases hcc:i < n.toNat
    ·rw [if_pos hcc] at h0; exact ⟨rfl,h0.2⟩
    ·rw [if_neg hcc] at h0; exact ⟨rfl,KS_len h0,KS_one h0⟩
   ·rw [if_neg hc]
    rw [List.getElem?_append_right (by simp; omega),List.getElem?_drop] at hr'
    have e1:j.toNat + 1 + (i - ((rs.take (j.toNat + 1)).map (fun r=>((r.1,[]):List Value × List Nat))).length) = i:=by
     simp; omega
    rw [e1,hri2] at hr'
    injection hr' with hr'
    subst hr'
    rw [if_neg (show ¬ i < n.toNat by omega)] at h0
    exact h0
 ·rw [List.nodup_append] at hnd2
  have:=hnd2.2.1
  rw [List.nodup_append] at this
  exact this.1
 ·rw [hf2]
  refine List.Nodup.sublist ?_ hnd2
  simp only [List.singleton_append,List.cons_append]
  exact List.Sublist.cons_cons _ (List.Sublist.trans (List.sublist_append_right _ _) (List.sublist_append_right _ _))
 ·intro k hk
  obtain ⟨h4,h5⟩:=nodup_mid hnd2 hk
  refine ⟨?_,?_⟩
  ·rw [hL]; simp [hk]
  ·rw [hf2]
   intro h6
   rcases List.mem_cons.1 h6 with rfl | h6
   ·exact h4 (by simp)
   ·exact h5 h6
 ·intro k hk
  rw [hf2] at hk
  rw [hL]
  rcases List.mem_cons.1 hk with rfl | hk
  ·simp [Value.ownBlock]
  ·exact List.mem_append.2 (.inr (List.mem_append.2 (.inr (List.mem_append.2 (.inr hk)))))
section
variable [Lin] {P:Program} {E:Env} {o:Oper} {a:Act} {w:World} {next:Act→World→Prop} {Q:Exit→Act→World→Prop} {B:Nat} {okA:Nat→Prop} {w0:World} {β:Nat→Value} {st:St} {ρ:Type} {r:ρ} {K1:St→Option ρ}
theorem sub_self:∀ (t:Ty) (x:t.T),sub t x 0 t = some x
 | .pair a b,x=>by simp [sub,Ty.cast?]
 | .int _,x=>by simp [sub,Ty.cast?]
 | .bool,x=>by simp [sub,Ty.cast?]
 | .str,x=>by simp [sub,Ty.cast?]
 | .unit,x=>by simp [sub,Ty.cast?]
 | .slice _ _,x=>by simp [sub,Ty.cast?]
/-- Nothing speaks of a free site. -/
theorem free_site {q:Nat} (hqn:St.obj st.ob q = none) {A':Fil.A} {v:Value} {G:Bool→Nat→Prop} (hrep:RepA w G β st.ob A' v) (hs1:A'.site = some q):False:=by
 cases A' with
 | ptr s2 o2 t2=>simp only [A.site,Option.some.injEq] at hs1; subst hs1; obtain ⟨g,_,_,t0,f0,x0,h3⟩:=hrep; rw [hqn] at h3; cases h3
 | ep s2 i2 o2 t2=>simp only [A.site,Option.some.injEq] at hs1; subst hs1; obtain ⟨g,n,c,_,e2,te2,f2,x2,h3,_⟩:=hrep; rw [hqn] at h3; cases h3
 | own s2=>simp only [A.site,Option.some.injEq] at hs1; subst hs1; obtain ⟨_,e2,te2,f2,x2,h3⟩:=hrep; rw [hqn] at h3; cases h3
 | xr=>simp only [A.site,Option.some.injEq] at hs1; subst hs1; obtain ⟨_,e2,te2,x2,h3⟩:=hrep; rw [hqn] at h3; cases h3
 | xp i2 o2 t2=>simp only [A.site,Option.some.injEq] at hs1; subst hs1; obtain ⟨ad,n,c,_,e2,te2,x2,h3,_⟩:=hrep; rw [hqn] at h3; cases h3
 | pt s2 p2 o2 t2=>simp only [A.site,Option.some.injEq] at hs1; subst hs1; obtain ⟨u,L,bx,sh,t1,x1,_,h3,_⟩:=hrep; rw [hqn] at h3; cases h3
 | vw s2 p2 o2 t2=>simp only [A.site,Option.some.injEq] at hs1; subst hs1; obtain ⟨u,L,bx,sh,t1,x1,cs,_,h3,_⟩:=hrep; rw [hqn] at h3; cases h3
 | tp s2 t2=>simp only [A.site,Option.some.injEq] at hs1; subst hs1; obtain ⟨u,L,bx,sh,t1,x1,_,h3,_⟩:=hrep; rw [hqn] at h3; cases h3
 | _=>simp [A.site] at hs1
/-- An element of a row becomes a tree of its own, at the free site q. -/
theorem Sim.cut (hs:Sim B okA w0 β st a w) {s:Nat} {s1:Sh} {n:Int} {e:Nat} {te:Ty} {xs:List te.T} (hob:St.obj st.ob s = some (.tr false (.ct s1 n) (.slice e te) xs)) {u:Value} {L:List Nat} (hb:β s = tupV u L)
  {g m c:Nat} (hc:(rootC w false u)[0]? = some (.slice (some ⟨g,0,none⟩) m c)) {j:Int} (hj:0≤j) (hi:j.toNat < m) (hni:n≤j) {q:Nat} (hq:st.ob[q]? = some none) (hq0:q≠0) :
  ∃ (cur:Array Value) (L1:List Nat) (β':Nat→Value),w.heap[g]? = some (.cells cur e (0,0))∧KS w (okD w B okA β st.ob false) s1 te (List.getD xs j.toNat te.zero) ((cur.toList.drop (j.toNat * te.sz)).take te.sz) L1∧β' q = tupV (te.val ((cur.toList.drop (j.toNat * te.sz)).take te.sz)) L1 ∧
   Sim B okA w0 β' ⟨killD [] st.tm [s],(st.ob.set s (some (.tr false (.ct s1 (j + 1)) (.slice e te) xs))).set q (some (.tr false s1 te (List.getD xs j.toNat te.zero)))⟩ a w:=by
 obtain ⟨rc,Lr,hr⟩:=hs.root hob hb
 rw [hr.root] at hc
 obtain ⟨hu,hLr⟩:=hr.val rfl
 subst hLr
 have hlt:=lt_of_obj hob
 have hql:q < st.ob.length:=(List.getElem?_eq_some_iff.1 hq).1
 have hqn:St.obj st.ob q = none:=obj_none hq
 have hqs:q≠s:=by rintro rfl; rw [hob] at hqn; cases hqn
 obtain ⟨cur,L1,L',hg,h1,h2,n1,n2,hdis,hsub⟩:=KS_cut hr.ks hr.nd hc hj hi hni te.zero
 generalize hr0:(cur.toList.drop (j.toNat * te.sz)).take te.sz = r0 at h1 ⊢
 have hO:∀ i,St.obj ((st.ob.set s (some (.tr false (.ct s1 (j + 1)) (.slice e te) xs))).set q (some (.tr false s1 te (List.getD xs j.toNat te.zero)))) i = if q = i then some (.tr false s1 te (List.getD xs j.toNat te.zero)) else if s = i then some (.tr false (.ct s1 (j + 1)) (.slice e te) xs) else St.obj st.ob i:=by
  intro i
  rw [obj_set]
  by_cases e1:q = i
  ·subst e1; simp [hql]
  ·simp only [e1,false_and,if_false]
   rw [obj_set]
   by_cases e2:s = i
   ·subst e2; simp [hlt]
   ·simp [e2]
 generalize hβ:upd (upd β s (tupV u L')) q (tupV (te.val r0) L1) = β1
 have hβq:β1 q = tupV (te.val r0) L1:=by rw [← hβ]; simp [upd]
 have hβs:β1 s = tupV u L':=by rw [← hβ]; simp [upd,Ne.symm hqs]
 refine ⟨cur,L1,β1,hg,by rw [hr0]; exact h1,by rw [hr0]; exact hβq,?_⟩
 refine hs.unkill (kl:=[]) (sh':=.ct s1 (j + 1)) (x':=xs) ?_ hob (by rw [hO,if_neg hqs,if_pos rfl]) (fun u2 L2 h3=>by rw [hb] at h3; obtain ⟨rfl,_⟩:=tup_inj h3; exact ⟨L',hβs⟩)
 refine hs.change (fun i=>i = s∨i = q) ⟨rfl,rfl,rfl,Nat.le_refl _,fun _ _ _=>rfl⟩ (by simp [killD,hs.len]) hs.defers ?_ ?_ ?_ ?_ ?_ ?_ ?_ ?_
 ·intro i hi
  have e1:q≠i:=fun e=>hi (.inr e.symm)
  have e2:s≠i:=fun e=>hi (.inl e.symm)
  exact ⟨by rw [hO,if_neg e1,if_neg e2],by rw [← hβ]; simp [upd,Ne.symm e1,Ne.symm e2]⟩
 ·rintro i o' (rfl | rfl) ho' e1 t1 xs1 rfl
  ·rw [hob] at ho'; cases ho'
  ·rw [hqn] at ho'; cases ho'
 ·rintro i o' (rfl | rfl) ho' e1 t1 xs1 rfl
  ·rw [hO,if_neg hqs,if_pos rfl] at ho'; cases ho'
  ·rw [hO,if_pos rfl] at ho'; cases ho'
 ·rintro i o' k (rfl | rfl) ho' hk
  ·rw [hβs] at hk
   exact .inr ⟨i,_,.inl rfl,hob,by rw [hb]; exact owns_tup.2 (hsub k (owns_tup.1 hk))⟩
  ·rw [hβq] at hk
   exact .inr ⟨s,_,.inl rfl,hob,by rw [hb]; exact owns_tup.2 (hdis k (owns_tup.1 hk)).1⟩
 ·have key:∀ k,owns (β1 s) k→owns (β1 q) k→False:=by
   intro k h6 h7
   rw [hβs] at h6
   rw [hβq] at h7
   exact (hdis k (owns_tup.1 h7)).2 (owns_tup.1 h6)
  rintro i i' o1 o2 k (rfl | rfl) (rfl | rfl) _ _ h6 h7
  ·rfl
  ·exact (key k h6 h7).elim
  ·exact (key k h7 h6).elim
  ·rfl
 ·intro hmv i o' hi ho'
  rw [hO] at ho'
  rcases hi with rfl | rfl
  ·rw [if_neg hqs,if_pos rfl] at ho'
   injection ho' with ho'
   subst ho'
   rw [hβs]
   refine RepO_tr ?_ n2 (fun k hk=>((hs.ob i _ hob).lt (by rw [hb]; exact owns_tup.2 (hsub k hk))).1)
   unfold TrIs
   simp only [Bool.false_eq_true,if_false]
   exact ⟨rc,hu,KS_step (fun k hk hlt'=>hmv false k hk hlt') (fun _ _=>rfl) h2⟩
  ·rw [if_pos rfl] at ho'
   injection ho' with ho'
   subst ho'
   rw [hβq]
   refine RepO_tr ?_ n1 (fun k hk=>((hs.ob s _ hob).lt (by rw [hb]; exact owns_tup.2 (hdis k hk).1)).1)
   unfold TrIs
   simp only [Bool.false_eq_true,if_false]
   exact ⟨_,rfl,KS_step (fun k hk hlt'=>hmv false k hk hlt') (fun _ _=>rfl) h1⟩
 ·intro hmv i A' hA'
  rcases killD_get hA' with rfl | ⟨hA',hd⟩
  ·exact .inl trivial
  ·have hrep:=hs.tm i A' hA'
   by_cases hsite:∃ s',A'.site = some s'∧(s' = s∨s' = q)
   ·obtain ⟨s',hs1,hs2⟩:=hsite
    rcases hs2 with rfl | rfl
    ·obtain ⟨off',t'',u',L'',g',_,hbx,_⟩:=kill_rep hob hrep hs1 (hd s' (by simp))
     cases hbx
    ·exact (free_site hqn hrep hs1).elim
   ·exact .inr ⟨hrep,fun s' hs1 hs2=>hsite ⟨s',hs1,hs2⟩⟩
 ·intro h0 hz bx3 sh3 t3 x3 h1
  rw [hO,if_neg hq0] at h1
  rcases hz with hz | hz
  ·subst hz
   rw [if_pos rfl] at h1
   obtain ⟨rfl,_,_⟩:=tr_inj h1
   obtain ⟨L3,hL3⟩:=hs.pin h0 _ _ _ _ hob
   rw [hb] at hL3
   exact ⟨_,by rw [hβs,(tup_inj hL3).1]⟩
  ·exact absurd hz.symm hq0
theorem ct_sound (he:EnvOk P E) (hs:Sim B okA w0 β st a w) {K0:Option ρ} (h:ctK E o st K1 K0 = some r) (h0:K0 = some r→o.wp P a w next Q)
  (hn:∀ β' st' a' w',Sim B okA w0 β' st' a' w'→K1 st' = some r→next a' w'):o.wp P a w next Q:=by
 cases ho:o.op with
 | indexAddr t x ix =>
  simp only [ctK,ho] at h
  split at h
  case h_2=>exact h0 h
  rename_i i s e te k fr j hT hA hI
  have hv:=hs.val x
  have hi:=hs.val ix
  rw [hA] at hv
  rw [hI] at hi
  have ht:=he.T _ _ hT
  split at h
  case h_2=>exact h0 h
  rename_i s1 n t0 x0 hob
  split at h
  case h_2=>cases h
  rename_i xs hx
  obtain ⟨rfl,rfl⟩:=cast?_some hx
  split at h
  case isFalse=>cases h
  rename_i hy
  rcases br_some h with ⟨hb,h⟩ | ⟨_,h⟩
  case inr=>cases h
  have hb:=in_bounds hb
  obtain ⟨u,L,bx,sh,t1,x1,cs,hbt,hob',hin,hpc,h1⟩:=hv
  rw [hob] at hob'
  obtain ⟨rfl,rfl,rfl,_⟩:=tr_inj hob'
  obtain ⟨rc,Lr,hr⟩:=hs.root hob hbt
  have hks:=hr.ks
  obtain ⟨v0,rs,rfl,hrow,ha,hL⟩:=hks
  have hcs:cs = [v0]:=by
   rcases hpc with ⟨_,h4⟩ | ⟨_,_,_,_,_,h4,_⟩
   ·rw [h4,hr.root]; rfl
   ·exact h4.elim
  subst hcs
  have h1:a.eval x = v0:=h1
  have hj:j.toNat < List.length xs:=hb.2.2
  rcases hrow.2 with ⟨_,h5⟩ | ⟨g2,cap,cur2,rfl,_,h6,h7,_⟩
  ·omega
  ·have hm:g2∈L:=hr.sub g2 (by rw [hL]; simp [Value.ownBlock])
   have hrun:(execOp a.eval o).run P w = .ok (.value (.pointer (some ⟨g2,j.toNat * te.sz,none⟩))) w:=by
    have hsz:=desc_elem ht hy w
    simp [execOp,ho,h1,int_of_V hi,Instr.indexAt,asIntOf,run_underlying (desc_slice ht hy),hb.1,hb.2.1,hsz,add_at']
   refine wp_value hrun (hn _ _ _ _ (hs.set (A:=.pt s [⟨0,e,te,j⟩] 0 te) ⟨u,L,false,_,_,xs,hbt,hob,.inr ⟨hin,g2,_,⟨hm,List.length xs,cap,?_,hb.1,hj,by simp⟩,rfl⟩⟩ o.dst) h)
   rw [hr.root]; rfl
 | load t p =>
  simp only [ctK,ho] at h
  split at h
  case h_3=>exact h0 h
  ·rename_i i s q t' d hT hA hd
   have hv:=hs.val p
   rw [hA] at hv
   have ht:=he.T _ _ hT
   split at h
   case h_2=>exact h0 h
   rename_i s1 n t0 x0 hob hfree
   split at h
   case h_2=>cases h
   rename_i xs hx
   obtain ⟨rfl,rfl⟩:=cast?_some hx
   split at h
   case isFalse=>cases h
   rename_i hc
   obtain ⟨hq0,hty,hd0⟩:=hc
   rcases br_some h with ⟨hb,h⟩ | ⟨_,h⟩
   case inr=>cases h
   rw [Bool.and_eq_true,decide_eq_true_eq,decide_eq_true_eq] at hb
   obtain ⟨u,L,bx,sh,t1,x1,hbt,hob',hv⟩:=hv
   rw [hob] at hob'
   obtain ⟨rfl,rfl,rfl,_⟩:=tr_inj hob'
   rcases hv with ⟨h1,_⟩ | ⟨hin,g,qq,⟨hm,m,c,hcell,hi0,hi1,hqq⟩,hv⟩
   ·cases h1
   rw [hq0] at hcell
   obtain ⟨cur,L1,β',hg,hK,hβ,hS⟩:=hs.cut hob hbt hcell hi0 hi1 hb.2 hfree hd0
   have hlen:=KS_len hK
   have hrun:(execOp a.eval o).run P w = .ok (.value (q.te.val ((cur.toList.drop (q.i.toNat * q.te.sz)).take q.te.sz))) w:=by
    have hat:At w ⟨g,qq,none⟩ ((cur.toList.drop (q.i.toNat * q.te.sz)).take q.te.sz):=by
     rw [hqq,Nat.add_zero]
     exact (at_rowT hg _).take _
    have:=run_loadVar ht (by rw [hty]; exact hlen) hat
    rw [hty] at this
    simp only [execOp,ho,Instr.loadAt,hv,Instr.sureAddr]
    simp [this]
   refine wp_value hrun ?_
   have hql:d < st.ob.length:=(List.getElem?_eq_some_iff.1 hfree).1
   have hset:=hS.set (A:=.vw d [] 0 q.te) (v:=q.te.val ((cur.toList.drop (q.i.toNat * q.te.sz)).take q.te.sz)) ⟨_,L1,false,s1,q.te,List.getD xs q.i.toNat q.te.zero,_,hβ,(by rw [obj_set]; simp [hql]),(fun h=>by cases h),.inl ⟨rfl,?_⟩,rfl⟩ (some d)
   ·rw [hd]
    rw [hd] at h
    exact hn _ _ _ _ hset h
   ·have h3:rootC w false (q.te.val ((cur.toList.drop (q.i.toNat * q.te.sz)).take q.te.sz)) = (cur.toList.drop (q.i.toNat * q.te.sz)).take q.te.sz:=by
     simp only [rootC,Bool.false_eq_true,if_false]
     exact val_cells hlen (KS_one hK)
    rw [h3,List.drop_zero,List.take_take,Nat.min_self]
  ·rename_i i s t' d hT hA hd
   have hv:=hs.val p
   rw [hA] at hv
   have ht:=he.T _ _ hT
   split at h
   case h_2=>exact h0 h
   split at h
   case h_2=>cases h
   rename_i sh t0 x0 hob hfree
   split at h
   case isFalse=>cases h
   rename_i hc
   obtain ⟨hty,hd0⟩:=hc
   subst hty
   have hsub:sub i.ty x0 0 i.ty = some x0:=sub_self i.ty x0
   have hshG:shG sh i.ty 0 i.ty = some sh:=by cases i.ty <;> simp [shG]
   have hshP:shP sh i.ty 0 i.ty .mv = .mv:=by cases i.ty <;> simp [shP]
   obtain ⟨g,q,cs,L1,hvp,hat,hvw,hK⟩:=hs.at_pt hv hob (t:=i.ty) (y:=x0) (s1:=sh) hsub hshG
   obtain ⟨u,L,bx,sh',t1,x1,cs',hbt,hob',hin,hpc,hcs⟩:=hvw
   rw [hob] at hob'
   obtain ⟨rfl,rfl,rfl,_⟩:=tr_inj hob'
   have hrun:(execOp a.eval o).run P w = .ok (.value (i.ty.val cs)) w:=by
    simp [execOp,ho,Instr.loadAt,hvp,Instr.sureAddr,run_loadVar ht (KS_len hK) hat]
   obtain ⟨L2,hL2,hS⟩:=hs.take hob hbt hsub hshG hfree hd0
   obtain ⟨L3,hK',_⟩:=hs.place hob hbt hpc hsub hshG
   have hcs2:cs' = ((rootC w true u).drop 0).take i.ty.sz:=by
    rcases hpc with ⟨_,h4⟩ | ⟨_,_,_,_,_,h4,_⟩
    ·exact h4
    ·exact h4.elim
   rw [hshP] at hS
   refine wp_value hrun ?_
   have hql:d < st.ob.length:=(List.getElem?_eq_some_iff.1 hfree).1
   have hset:=hS.set (A:=.vw d [] 0 i.ty) (v:=i.ty.val cs) ⟨i.ty.val cs',L2,false,sh,i.ty,x0,cs',by simp only [upd,if_true,hcs2],(by rw [obj_set]; simp [hql]),(fun h=>by cases h),.inl ⟨rfl,?_⟩,hcs⟩ (some d)
   ·rw [hd]
    rw [hd] at h
    exact hn _ _ _ _ hset h
   ·have h3:rootC w false (i.ty.val cs') = cs':=by
     simp only [rootC,Bool.false_eq_true,if_false]
     exact val_cells (KS_len hK') (KS_one hK')
    rw [h3,List.drop_zero,← KS_len hK',List.take_length]
 | call c =>
  simp only [ctK,ho] at h
  split at h
  case h_2=>exact h0 h
  rename_i hc
  split at h
  case h_2=>exact h0 h
  rename_i x t ha hat
  split at h
  case h_2=>exact h0 h
  rename_i i s e te hT hA
  split at h
  case h_2=>exact h0 h
  rename_i s1 n t0 x0 hob
  split at h
  case h_2=>cases h
  rename_i xs hx
  obtain ⟨rfl,rfl⟩:=cast?_some hx
  split at h
  case isFalse=>cases h
  rename_i hy
  have hv:=hs.val x
  rw [hA] at hv
  have ht:=he.T _ _ hT
  obtain ⟨u,L,bx,sh,t1,x1,cs,hbt,hob',hin,hpc,h1⟩:=hv
  rw [hob] at hob'
  obtain ⟨rfl,rfl,rfl,_⟩:=tr_inj hob'
  obtain ⟨rc,Lr,hr⟩:=hs.root hob hbt
  have hks:=hr.ks
  obtain ⟨v0,rs,rfl,hrow,ha',hL⟩:=hks
  have hcs:cs = [v0]:=by
   rcases hpc with ⟨_,h4⟩ | ⟨_,_,_,_,_,h4,_⟩
   ·rw [h4,hr.root]; rfl
   ·exact h4.elim
  subst hcs
  have h1:a.eval x = v0:=h1
  have:∃ A c,a.eval x = .slice A (List.length xs) c:=by
   rw [h1]
   rcases hrow.2 with ⟨h5,h6⟩ | ⟨g,cap,cur,h5,_⟩
   ·exact ⟨none,0,by rw [h5,h6]⟩
   ·exact ⟨_,_,h5⟩
  obtain ⟨A,c',h5⟩:=this
  have hrun:(execOp a.eval o).run P w = .ok (.value (.int .i64 (List.length xs))) w:=by
   rw [call_len ho hc ha hat]
   have:=len_run (o:=o) (desc_slice ht hy) (.inl ⟨e,A,c',rfl,h5⟩) w
   simp [this]
  exact wp_value hrun (hn _ _ _ _ (hs.set (A:=.d (.int .i64) true (List.length xs:Int)) (V_int _ _) o.dst) h)
 | _=>exact h0 (by simpa only [ctK,ho] using h)
end
end Go.Fil
