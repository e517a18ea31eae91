/- Operations that make or change the call's own blocks, one by one. -/
import Derived.Test.YtofllafpneanoaaGreatDoorFilY
set_option linter.unusedSectionVars false
namespace Go.Fil
open Go.RowKit
set_option linter.unusedVariables false
set_option linter.unusedSimpArgs false
section
variable [Lin] {P:Program} {E:Env} {o:Oper} {a:Act} {w:World} {next:Act→World→Prop} {Q:Exit→Act→World→Prop} {B:Nat} {okA:Nat→Prop} {w0:World} {β:Nat→Value} {st:St} {ρ:Type} {r:ρ} {K1:St→Option ρ}
theorem dtOf_V {t:Nat} {A:A} {d:Dt} {G:Bool→Nat→Prop} {ob:List (Option Ob)} {v:Value} (h:dtOf E t A = some d) (hv:RepA w G β ob A v):V w (G d.fr) d.t d.x v∧∃ i,E.T t = some i∧i.ty = d.t:=by
 unfold dtOf at h
 split at h
 ·rename_i t1 fr x1 i hT
  split at h
  ·rename_i e
   injection h with h; subst h
   exact ⟨hv,i,hT,e⟩
  ·cases h
 ·rename_i i hT
  split at h
  ·rename_i e t' hy
   injection h with h; subst h
   exact ⟨⟨[.slice none 0 0],⟨none,0,[],rfl,Nat.le_refl _,Nat.zero_le _,trivial,fun h=>by simp at h⟩,hv⟩,i,hT,hy⟩
  ·cases h
 ·rename_i c1 t1 x1 i hT
  split at h
  ·rename_i e
   injection h with h; subst h
   exact ⟨V_step (fun k hk hlt=>⟨hk.2,hlt,rfl⟩) hv,i,hT,e⟩
  ·cases h
 ·cases h
theorem at_list {cur C:List Value} {o:Nat} (h:∀ q u,C[q]? = some u→cur[o + q]? = some u):(cur.drop o).take C.length = C∧(0 < C.length→o + C.length≤cur.length):=by
 have h1:∀ q,q < C.length→(cur.drop o)[q]? = C[q]?:=by
  intro q hq
  rw [List.getElem?_drop,List.getElem?_eq_getElem hq]
  exact h q _ (List.getElem?_eq_getElem hq)
 refine ⟨?_,fun hp=>?_⟩
 ·apply List.ext_getElem?
  intro q
  rw [List.getElem?_take]
  split
  ·rename_i hq; exact h1 q hq
  ·rename_i hq; rw [List.getElem?_eq_none (by omega)]
 ·have:=h (C.length - 1) _ (List.getElem?_eq_getElem (by omega))
  have:=(List.getElem?_eq_some_iff.1 this).1
  omega
theorem plain_alloc (w:World) (cs:Array Value) (e:Nat):(w.alloc (.cells cs e)).heap[w.heap.size]? = some (.cells cs e (0,0)):=heap_alloc_new w _
/-- A new block that holds data: a box, a row. -/
theorem new_mv (hs:Sim B okA w0 β st a w) {s:Nat} (hfree:st.ob[s]? = some none) {w1:World} (hg:Grow w w1) {v:Value} {ob':Ob} (hv:∀ k,owns v k→w.heap.size≤k):Mv w w1 (okD w B okA β st.ob) (okD w1 B okA (upd β s v) (st.ob.set s (some ob'))):=by
 have hlt:s < st.ob.length:=(List.getElem?_eq_some_iff.1 hfree).1
 refine okD_mv (fun k _ hk=>hg.below.block k hk) hg.below.size ?_
 rintro k hk ⟨s',o',h1,h2⟩
 rw [obj_set] at h1
 by_cases e:s = s'
 ·subst e
  simp only [upd,if_true] at h2
  have:=hv k h2
  omega
 ·simp only [e,false_and,if_false] at h1
  exact ⟨s',o',h1,by simpa [upd,Ne.symm e] using h2⟩
theorem box_new (hs:Sim B okA w0 β st a w) {s:Nat} (hfree:st.ob[s]? = some none) {t:Ty} {fr:Bool} {x:t.T} {cs:Array Value} (e:Nat) (hK:K w (okD w B okA β st.ob fr) t x cs.toList) :
  ∃ β',Sim B okA w0 β' ⟨st.tm.set s (.ptr s 0 t),st.ob.set s (some (.box t fr x))⟩ (a.put (some s) (.pointer (some ⟨w.heap.size,0,none⟩))) (w.alloc (.cells cs e)):=by
 have hlt:s < st.ob.length:=(List.getElem?_eq_some_iff.1 hfree).1
 have hv:∀ k,owns (.pointer (some ⟨w.heap.size,0,none⟩)) k→w.heap.size≤k:=by
  intro k hk
  have hk:=owns_of hk (by intros; simp)
  revert hk
  revert k
  suffices h:∀ k,blk _ = some k→w.heap.size≤k from fun k _ hk=>h k hk
  show ∀ k,blk (.pointer (some ⟨w.heap.size,0,none⟩)) = some k→w.heap.size≤k
  intro k hk; simp [blk] at hk; omega
 have hg:=Grow.alloc w (.cells cs e)
 have hm:=new_mv hs hfree hg (v:=.pointer (some ⟨w.heap.size,0,none⟩)) (ob':=.box t fr x) hv
 refine ⟨_,hs.new hfree hg hv ?_ ?_⟩
 ·exact ⟨w.heap.size,cs,e,rfl,hs.size,plain_alloc w cs e,K_step (hm fr) hK⟩
 ·exact ⟨w.heap.size,by simp [upd],rfl,t,fr,x,by rw [obj_set]; simp [hlt]⟩
theorem arr_new (hs:Sim B okA w0 β st a w) {s:Nat} (hfree:st.ob[s]? = some none) {t:Ty} {fr:Bool} {xs:List t.T} {css:List (List Value)} {cs:Array Value} (e:Nat) (hcs:cs.toList = css.flatten) (hm:xs.length≤maxLen) (hK:All2 (fun x c=>K w (okD w B okA β st.ob fr) t x c) xs css) :
  ∃ β',Sim B okA w0 β' ⟨st.tm.set s (.own s),st.ob.set s (some (.arr e t fr xs))⟩ (a.put (some s) (.slice (some ⟨w.heap.size,0,none⟩) xs.length xs.length)) (w.alloc (.cells cs e)):=by
 have hlt:s < st.ob.length:=(List.getElem?_eq_some_iff.1 hfree).1
 have hv:∀ k,owns (.slice (some ⟨w.heap.size,0,none⟩) xs.length xs.length) k→w.heap.size≤k:=by
  intro k hk
  have hk:=owns_of hk (by intros; simp)
  revert hk
  revert k
  suffices h:∀ k,blk _ = some k→w.heap.size≤k from fun k _ hk=>h k hk
  show ∀ k,blk (.slice (some ⟨w.heap.size,0,none⟩) xs.length xs.length) = some k→w.heap.size≤k
  intro k hk; simp [blk] at hk; omega
 have hg:=Grow.alloc w (.cells cs e)
 have hmv:=new_mv hs hfree hg (v:=.slice (some ⟨w.heap.size,0,none⟩) xs.length xs.length) (ob':=.arr e t fr xs) hv
 have hsz:cs.size = xs.length * t.sz:=by
  rw [← Array.length_toList,hcs,flat_length (flat_len hK),← hK.length]
 refine ⟨_,hs.new hfree hg hv ?_ ?_⟩
 ·refine ⟨css,?_,hK.imp (fun x c hx=>K_step (hmv fr) hx)⟩
  have h2:=World.ownsRow_lit (base:=B) (e:=e) (size:=t.sz) w cs xs.length hs.size hm hsz
  rw [hcs] at h2
  exact h2
 ·exact ⟨by simp [upd],e,t,fr,xs,by rw [obj_set]; simp [hlt]⟩
theorem alloc_sound (he:EnvOk P E) (hs:Sim B okA w0 β st a w) {t:Nat} (ho:o.op = .alloc t) (h:effK0 E o st K1 = some r)
  (hn:∀ β' st' a' w',Sim B okA w0 β' st' a' w'→K1 st' = some r→next a' w'):o.wp P a w next Q:=by
 simp only [effK0,ho] at h
 split at h
 ·rename_i i s hT hd
  split at h
  ·rename_i hfree
   have ht:=he.T _ _ hT
   have hz:=run_zero ht w
   have hzc:(i.ty.val i.ty.zcells).cells.toList = i.ty.zcells:=val_cells (zcells_len _) (K_one (K_zero w (fun _=>True) i.ty))
   obtain ⟨β',hβ⟩:=box_new hs hfree (t:=i.ty) (fr:=true) (x:=i.ty.zero) (cs:=(i.ty.val i.ty.zcells).cells) t (by rw [hzc]; exact K_zero _ _ _)
   have hrun:(execOp a.eval o).run P w = .ok (.value (.pointer (some ⟨w.heap.size,0,none⟩))) (w.alloc (.cells (i.ty.val i.ty.zcells).cells t)):=by
    simp [execOp,ho,Instr.alloc,hz,newVar,newRow,newObj,Sem.run]
   unfold Oper.wp
   rw [hrun]
   show next (a.put o.dst _) _
   rw [hd]
   exact hn _ _ _ _ hβ h
  ·cases h
 ·cases h
theorem box_sound (he:EnvOk P E) (hs:Sim B okA w0 β st a w) {t:Nat} {x:Operand} (ho:o.op = .box t x) (h:effK0 E o st K1 = some r)
  (hn:∀ β' st' a' w',Sim B okA w0 β' st' a' w'→K1 st' = some r→next a' w'):o.wp P a w next Q:=by
 simp only [effK0,ho] at h
 split at h
 ·rename_i t' y hA
  have hv:=hs.val x
  rw [hA] at hv
  obtain ⟨cs,g1,g2⟩:=hv
  have hg:=Grow.alloc w (.cells (a.eval x).cells t)
  have hrun:(execOp a.eval o).run P w = .ok (.value (.pointer (some ⟨w.heap.size,0,none⟩))) (w.alloc (.cells (a.eval x).cells t)):=by
   simp [execOp,ho,Instr.box,newVar,newRow,newObj,Sem.run]
  unfold Oper.wp
  rw [hrun]
  show next (a.put o.dst _) _
  have hc:(a.eval x).cells.toList = cs:=by rw [g2]; exact val_cells (KL_len g1) (KL_one g1)
  refine hn _ _ _ _ ((hs.grow hg).set (A:=.lb t' y) ⟨_,cs,rfl,g1,?_,⟨.inr hs.size,?_,fun h=>by cases h⟩,?_⟩ o.dst) h
  ·have:=at_row (plain_alloc w (a.eval x).cells t) 0
   rw [hc] at this
   simpa using this
  ·intro ho'
   have:=(hs.ow_lt ho').2
   simp at this
  ·simp
 split at h
 ·rename_i i s d hT hd hdt
  split at h
  ·rename_i hfree
   have hV:=(dtOf_V hdt (hs.val x)).1
   obtain ⟨β',hβ⟩:=box_new hs hfree (t:=d.t) (fr:=d.fr) (x:=d.x) (cs:=(a.eval x).cells) t (V_cells hV)
   have hrun:(execOp a.eval o).run P w = .ok (.value (.pointer (some ⟨w.heap.size,0,none⟩))) (w.alloc (.cells (a.eval x).cells t)):=by
    simp [execOp,ho,Instr.box,newVar,newRow,newObj,Sem.run]
   unfold Oper.wp
   rw [hrun]
   show next (a.put o.dst _) _
   rw [hd]
   exact hn _ _ _ _ hβ h
  ·cases h
 ·cases h
theorem make_sound (he:EnvOk P E) (hs:Sim B okA w0 β st a w) {t:Nat} {x y:Operand} (ho:o.op = .makeSlice t x y) (h:effK0 E o st K1 = some r)
  (hn:∀ β' st' a' w',Sim B okA w0 β' st' a' w'→K1 st' = some r→next a' w'):o.wp P a w next Q:=by
 simp only [effK0,ho] at h
 split at h
 ·rename_i i s fr n fr' m hT hd hx hy
  split at h
  ·rename_i e te hty hfree
   split at h
   ·rename_i ie hTe
    split at h
    ·rename_i hie
     rcases br_some h with ⟨hb,h⟩ | ⟨_,h⟩
     ·have hvx:=hs.val x
      have hvy:=hs.val y
      rw [hx] at hvx
      rw [hy] at hvy
      have ex:=int_of_V hvx
      have ey:=int_of_V hvy
      rw [Bool.and_eq_true,Bool.and_eq_true] at hb
      obtain ⟨⟨hb1,hb2⟩,hb3⟩:=hb
      have hb1:(0:Int)≤n:=of_decide_eq_true hb1
      have hb2:(n:Int) = m:=of_decide_eq_true hb2
      have hb3:n.toNat * ie.bytes≤281474976710656:=of_decide_eq_true hb3
      obtain ⟨N,hN⟩:=Int.eq_ofNat_of_zero_le hb1
      have htoN:n.toNat = N:=by rw [hN]; rfl
      rw [htoN] at hb3 h
      have hte:=he.T _ _ hTe
      obtain ⟨inf,g1,g2,g3,g4⟩:=hte.info
      have hpos:=hte.pos
      have hNm:N≤281474976710656:=Nat.le_trans (Nat.le_mul_of_pos_right _ hpos) hb3
      have hr:=run_make (P:=P) w t e inf (te.val te.zcells) (desc_slice (he.T _ _ hT) hty) g1 (by rw [g4,hie.1]) .i64 .i64 (N:Int) (N:Int) (by omega) (by omega)
       (by
        have h3:((inf.bytes * N:Nat):Int)≤281474976710656:=by rw [g3,Nat.mul_comm]; omega
        rwa [Int.natCast_mul] at h3) (by omega)
      simp only [Int.toNat_natCast] at hr
      rw [g2,hie.1] at hr
      have hzc:(te.val te.zcells).cells.toList = te.zcells:=val_cells (zcells_len _) (K_one (K_zero w (fun _=>True) te))
      have hzs:(te.val te.zcells).cells.size = te.sz:=by rw [← Array.length_toList,hzc,zcells_len]
      obtain ⟨β',hβ⟩:=arr_new hs hfree (t:=te) (fr:=true) (xs:=List.replicate N te.zero) (css:=List.replicate N te.zcells) (cs:=madeCells (te.val te.zcells).cells (N * te.sz)) e (by rw [made_flat hzs hie.2,hzc]) (by simp [maxLen]; omega) (All2.replicate (K_zero _ _ _) N)
      rw [List.length_replicate] at hβ
      have hrun:(execOp a.eval o).run P w = .ok (.value (.slice (some ⟨w.heap.size,0,none⟩) N N)) (w.alloc (.cells (madeCells (te.val te.zcells).cells (N * te.sz)) e)):=by
       simp [execOp,ho,ex,ey,← hb2,hN,hr]
      unfold Oper.wp
      rw [hrun]
      show next (a.put o.dst _) _
      rw [hd]
      exact hn _ _ _ _ hβ h
     ·cases h
    ·cases h
   ·cases h
  ·cases h
 ·cases h
theorem nilarr_sound (he:EnvOk P E) (hs:Sim B okA w0 β st a w) (ho:o.op = .assign (.const (.slice none 0 0))) (h:effK0 E o st K1 = some r)
  (hn:∀ β' st' a' w',Sim B okA w0 β' st' a' w'→K1 st' = some r→next a' w'):o.wp P a w next Q:=by
 have hrun:(execOp a.eval o).run P w = .ok (.value (.slice none 0 0)) w:=by simp [execOp,ho,Act.eval]
 have hset:K1 (st.set o.dst .nil) = some r→o.wp P a w next Q:=fun h =>
  wp_value hrun (hn _ _ _ _ (hs.set (A:=.nil) rfl o.dst) h)
 simp only [effK0,ho] at h
 split at h
 ·rename_i i s hT hd
  split at h
  ·rename_i e t hty hfree
   have hlt:s < st.ob.length:=(List.getElem?_eq_some_iff.1 hfree).1
   have hv:∀ k,owns (.slice none 0 0) k→w.heap.size≤k:=by intro k hk; simp [owns,trB,blk] at hk
   have:=hs.new hfree (Grow.refl w) (v:=.slice none 0 0) (tv:=.slice none 0 0) (ob':=.arr e t true []) (A:=.own s) hv
    ⟨[],World.ownsRow_nil w B e t.sz,trivial⟩ ⟨by simp [upd],e,t,true,[],by rw [obj_set]; simp [hlt]⟩
   unfold Oper.wp
   rw [hrun]
   show next (a.put o.dst _) _
   rw [hd]
   exact hn _ _ _ _ this h
  ·exact hset h
 ·exact hset h
/-- What a store into the block of site s leaves. -/
theorem Sim.write (hs:Sim B okA w0 β st a w) {s:Nat} {ob0 ob':Ob} (hob:St.obj st.ob s = some ob0) {w1:World} {g:Nat} (hnt:ob0.isTr = false) (hg:blk (β s) = some g) (hbelow:Below B w w1) (hsz:w1.heap.size = w.heap.size)
  (hw:∀ k,k≠g→w1.heap[k]? = w.heap[k]?) (hsame:Same st.ob (st.ob.set s (some ob')) s)
  (hO:Mv w w1 (okD w B okA β st.ob) (okD w1 B okA β (st.ob.set s (some ob')))→RepO w1 B (okD w1 B okA β (st.ob.set s (some ob'))) (β s) ob') (hr:∀ e t xs,ob'≠.row e t xs:=by intros; simp) (hp:∀ bx sh t x,ob'≠.tr bx sh t x:=by intros; simp) :
  Sim B okA w0 β ⟨st.tm,st.ob.set s (some ob')⟩ a w1:=by
 have hlt:=lt_of_obj hob
 have hO':∀ s',St.obj (st.ob.set s (some ob')) s' = if s = s' then some ob' else St.obj st.ob s':=by
  intro s'; rw [obj_set]; simp [hlt]
 have how:∀ k,Ow β (st.ob.set s (some ob')) k→Ow β st.ob k:=by
  rintro k ⟨s',o',h1,h2⟩
  rw [hO'] at h1
  by_cases e:s = s'
  ·subst e; exact ⟨s,ob0,hob,h2⟩
  ·rw [if_neg e] at h1; exact ⟨s',o',h1,h2⟩
 have hone:∀ s' e' t' xs',St.obj (st.ob.set s (some ob')) s' = some (.row e' t' xs')→s' = 0:=by
  intro s' e' t' xs' h
  rw [hO'] at h
  split at h
  ·injection h with h; exact absurd h (hr _ _ _)
  ·exact hs.one _ _ _ _ h
 have hmv:Mv w w1 (okD w B okA β st.ob) (okD w1 B okA β (st.ob.set s (some ob'))) :=
  okD_mv (fun k hk _=>hw k (fun e=>hk (e ▸ ⟨s,ob0,hob,.inl hg⟩))) (by omega) (fun k _ h=>how k h)
 have hpin:Lin.rv≠undef→∀ bx sh t x,St.obj (st.ob.set s (some ob')) 0 = some (.tr bx sh t x)→∃ L,β 0 = tupV Lin.rv L:=by
  intro h0 bx1 sh1 t1 x1 h1
  rw [hO'] at h1
  split at h1
  ·injection h1 with h1; exact absurd h1 (hp _ _ _ _)
  ·exact hs.pin h0 _ _ _ _ h1
 refine { len:=hs.len,tm:=?_,ob:=?_,apart:=?_,below:=hs.below.trans hbelow,mrk:=hs.mrk.keep (fun k hk=>hw k (fun e=>by have:=(hs.lt k hk).1; have:=((hs.ob s ob0 hob).lt' hnt hg).1; omega)),lt:=hs.lt,one:=hone,ltN:=hs.ltN,ltT:=hs.ltT,size:=by rw [hsz]; exact hs.size,arg:=hs.arg,pin:=hpin,defers:=hs.defers }
 ·intro i A hA
  refine (hs.tm i A hA).step hmv (fun s1 h1=>⟨rfl,?_,?_⟩)
  ·by_cases e:s = s1
   ·subst e; exact hsame
   ·exact Same.of_eq (by rw [hO',if_neg e])
  ·intro bx sh t x ho k hk
   refine hw k ?_
   rintro rfl
   have:=hs.apart s s1 _ _ _ hob ho (.inl hg) hk
   subst this
   rw [hob] at ho
   injection ho with ho
   subst ho
   cases hnt
 ·intro s' o' ho'
  simp only [hO'] at ho'
  by_cases e:s = s'
  ·subst e
   simp at ho'
   subst ho'
   exact hO hmv
  ·rw [if_neg e] at ho'
   refine (hs.ob s' o' ho').step (fun k hk=>hw k (fun e=>by have:=(hs.ltN k hk).1; have:=((hs.ob s ob0 hob).lt' hnt hg).1; omega)) hmv (fun k hk=>hw k ?_)
   rintro rfl
   exact e (hs.apart s s' _ _ _ hob ho' (.inl hg) hk)
 ·intro s1 s2 o1 o2 k h1 h2 h3 h4
  simp only [hO'] at h1 h2
  have:∀ s',(∃ o',(if s = s' then some ob' else St.obj st.ob s') = some o')→∃ o',St.obj st.ob s' = some o':=by
   rintro s' ⟨o',h⟩
   by_cases e:s = s'
   ·subst e; exact ⟨_,hob⟩
   ·rw [if_neg e] at h; exact ⟨_,h⟩
  obtain ⟨o1',g1⟩:=this s1 ⟨_,h1⟩
  obtain ⟨o2',g2⟩:=this s2 ⟨_,h2⟩
  exact hs.apart s1 s2 o1' o2' k g1 g2 h3 h4
theorem run_storeVar {t:Nat} {i:TI} (ht:TGood P t i) {g off e:Nat} {cur:Array Value} (hg:w.heap[g]? = some (.cells cur e (0,0))) {v:Value} {ok:Nat→Prop} {x:i.ty.T} (hv:V w ok i.ty x v) (hb:off + i.ty.sz≤cur.size) :
  (Instr.storeAt t (.pointer (some ⟨g,off,none⟩)) v).run P w = .ok () (w.setRow g (cur.toList.take off ++ v.cells.toList ++ cur.toList.drop (off + i.ty.sz)).toArray):=by
 have hK:=V_cells hv
 have hl:=K_len hK
 have hsz:=run_size ht w
 have hst:=run_storeCells_at (P:=P) g off e v.cells.toList 0 cur w hg (by rw [hl]; omega) (K_one hK)
 rw [hl] at hst
 simp only [Nat.add_zero] at hst
 simp only [Array.length_toList] at hl
 simp [Instr.storeAt,Instr.sureAddr,storeVar,hsz,hl,hst]
theorem store_sound (he:EnvOk P E) (hs:Sim B okA w0 β st a w) {t:Nat} {p x:Operand} (ho:o.op = .store t p x) (h:effK0 E o st K1 = some r)
  (hn:∀ β' st' a' w',Sim B okA w0 β' st' a' w'→K1 st' = some r→next a' w'):o.wp P a w next Q:=by
 simp only [effK0,ho] at h
 split at h
 ·rename_i d hdt hd
  obtain ⟨hV,i,hT,hi⟩:=dtOf_V hdt (hs.val x)
  obtain ⟨dt,dfr,dx⟩:=d
  simp only at hV hi h
  subst hi
  have ht:=he.T _ _ hT
  have hp:=hs.val p
  have fin:∀ w1,(Instr.storeAt t (a.eval p) (a.eval x)).run P w = .ok () w1→next a w1→o.wp P a w next Q:=by
   intro w1 h1 h2
   unfold Oper.wp
   have:(execOp a.eval o).run P w = .ok .skip w1:=by simp [execOp,ho,h1]
   rw [this]
   show next (a.put o.dst _) w1
   rw [hd]
   exact h2
  split at h
  ·rename_i s off t' hA
   rw [hA] at hp
   split at h
   ·rename_i t0 fr v hob
    split at h
    ·rename_i v' hput
     obtain ⟨g,hb,hpv,_⟩:=hp
     obtain ⟨g',cs,e,h2,h3,h4,h5⟩:=hs.ob _ _ hob
     rw [hb] at h2
     obtain rfl:g = g':=by injection h2 with h2; injection h2 with h2; injection h2
     have hKd:=V_cells hV
     have hw1:∀ (b1 b2:Bool),(b2 = true→b1 = true)→∀ k,okD w B okA β st.ob b1 k→okD w B okA β st.ob b2 k:=fun b1 b2 hb k hk=>⟨hk.1,hk.2.1,fun h=>hk.2.2 (hb h)⟩
     have hKd2:K w (okD w B okA β st.ob (fr && dfr)) i.ty dx (a.eval x).cells.toList:=K_mono (fun k hk _=>hw1 dfr _ (by simp) k hk) hKd
     have hK2:K w (okD w B okA β st.ob (fr && dfr)) t0 v cs.toList:=K_mono (fun k hk _=>hw1 fr _ (by simp; intro h1 _; exact h1) k hk) h5
     obtain ⟨h6,h7⟩:=put_K hKd2 hput hK2
     have hcl:=K_len h5
     simp only [Array.length_toList] at hcl
     have hrun:=run_storeVar (w:=w) ht h4 hV (off:=off) (by omega)
     refine fin _ (by rw [hpv]; exact hrun) (hn β _ a _ (hs.write (ob':=.box t0 (fr && dfr) v') hob (g:=g) rfl (by rw [hb]; rfl) (below_setRow (Below.refl _ _) h3 _) (by simp) (fun k hk=>setRow_other _ _ _ _ hk) ?_ ?_) h)
     ·unfold Same; rw [hob,obj_set]; simp [lt_of_obj hob]
     ·intro hmv
      exact ⟨g,_,e,hb,h3,setRow_heap _ _ _ _ _ _ h4,K_step (hmv _) h7⟩
    ·cases h
   ·cases h
  ·rename_i s j off t' hA
   rw [hA] at hp
   split at h
   ·rename_i e te fr xs hob
    split at h
    ·rename_i v' hput
     obtain ⟨g,n,c,hb,e',te',fr',xs',hob',hj0,hj1,hpv⟩:=hp
     rw [hob] at hob'
     obtain ⟨rfl,rfl,rfl,hx⟩:e = e'∧te = te'∧fr = fr'∧HEq xs xs':=by
      injection hob' with h7; injection h7 with h8 h9 h10 h11; exact ⟨h8,h9,h10,h11⟩
     obtain rfl:=eq_of_heq hx
     obtain ⟨css,h2,h3⟩:=hs.ob _ _ hob
     have h22:=h2.2
     rw [hb] at h22
     rcases h22 with ⟨h4,_⟩ | ⟨g',cap,cur,h4,h5,h6,h7,h8,h9,h10⟩
     ·cases h4
     obtain ⟨rfl,rfl,rfl⟩:g = g'∧n = xs.length∧c = cap:=by
      injection h4 with h4 h11 h12; injection h4 with h4; injection h4 with h4; exact ⟨h4,h11,h12⟩
     have hKd:=V_cells hV
     have hw1:∀ (b1 b2:Bool),(b2 = true→b1 = true)→∀ k,okD w B okA β st.ob b1 k→okD w B okA β st.ob b2 k:=fun b1 b2 hb k hk=>⟨hk.1,hk.2.1,fun h=>hk.2.2 (hb h)⟩
     have hKd2:K w (okD w B okA β st.ob (fr && dfr)) i.ty dx (a.eval x).cells.toList:=K_mono (fun k hk _=>hw1 dfr _ (by simp) k hk) hKd
     have hl:=h3.length
     have hjc:css[j.toNat]? = some css[j.toNat]:=List.getElem?_eq_getElem (by omega)
     have hKj:K w (okD w B okA β st.ob fr) te (xs.getD j.toNat te.zero) css[j.toNat]:=by
      rw [List.getD_eq_getElem?_getD,List.getElem?_eq_getElem hj1]
      exact h3.get (List.getElem?_eq_getElem hj1) hjc
     have hK2:K w (okD w B okA β st.ob (fr && dfr)) te (xs.getD j.toNat te.zero) css[j.toNat]:=K_mono (fun k hk _=>hw1 fr _ (by simp; intro h1 _; exact h1) k hk) hKj
     obtain ⟨h11,h12⟩:=put_K hKd2 hput hK2
     have hfl:=flat_len h3
     have hcl:=hfl _ (List.getElem_mem (show j.toNat < css.length by omega))
     have hflat:=flat_length hfl
     have hjsz:j.toNat * te.sz + te.sz≤xs.length * te.sz:=by
      have:(j.toNat + 1) * te.sz≤xs.length * te.sz:=Nat.mul_le_mul_right _ hj1
      rwa [Nat.succ_mul] at this
     have hcs:xs.length * te.sz≤cur.size:=by rw [h9]; exact Nat.mul_le_mul_right _ h7
     have hrun:=run_storeVar (w:=w) ht h6 hV (off:=j.toNat * te.sz + off) (by omega)
     refine fin _ (by rw [hpv]; exact hrun) (hn β _ a _ (hs.write (ob':=.arr e te (fr && dfr) (xs.set j.toNat v')) hob (g:=g) rfl (by rw [hb]; rfl) (below_setRow (Below.refl _ _) h5 _) (by simp) (fun k hk=>setRow_other _ _ _ _ hk) ?_ ?_) h)
     ·unfold Same; rw [hob,obj_set]; simp [lt_of_obj hob]
     ·intro hmv
      have hvl:=K_len hKd
      refine ⟨css.set j.toNat _,?_,((h3.imp (fun x c hx=>K_step (fun k hk hlt=>⟨(hmv _ k (hw1 fr (fr && dfr) (by simp; intro h1 _; exact h1) k hk) hlt).1,(hmv _ k hk hlt).2⟩) hx)).set j.toNat (K_step (hmv _) h12))⟩
      rw [List.length_set,hb]
      refine ⟨?_,.inr ⟨g,c,_,rfl,h5,setRow_heap _ _ _ _ _ _ h6,h7,h8,?_,?_⟩⟩
      ·rw [flat_length (sz:=te.sz) (by
        intro c' hc'
        rcases List.mem_or_eq_of_mem_set hc' with h13 | rfl
        ·exact hfl _ h13
        ·exact K_len h12)]
       rw [List.length_set,← hl]
      ·simp only [List.size_toArray,List.length_append,List.length_take,List.length_drop,Array.length_toList] at *
       omega
      ·rw [flat_set (sz:=te.sz) j.toNat hfl (by omega) (K_len h12),← h10]
       have hjf:css[j.toNat] = (css.flatten.drop (j.toNat * te.sz)).take te.sz:=(flat_get hfl hjc).symm
       rw [hjf,← h10]
       have:=splice_take cur.toList (a.eval x).cells.toList (j.toNat * te.sz) off i.ty.sz te.sz (xs.length * te.sz) hvl h11 hjsz (by simpa using hcs)
       simpa using this
    ·cases h
   ·cases h
  ·rename_i j off t' hA
   rw [hA] at hp
   split at h
   ·rename_i e te xs hob
    split at h
    ·rename_i v' hput
     split at h
     ·rename_i hc
      obtain ⟨hf1,hf2,hpos⟩:=hc
      obtain ⟨ad,n,c,hrv,e',te',xs',hob',hj0,hj1,hpv⟩:=hp
      rw [hob] at hob'
      obtain ⟨rfl,rfl,hx⟩:e = e'∧te = te'∧HEq xs xs':=by
       injection hob' with h7; injection h7 with h8 h9 h10; exact ⟨h8,h9,h10⟩
      obtain rfl:=eq_of_heq hx
      obtain ⟨h0,A,c',css,h2,hlc,h3,h4⟩:=hs.ob _ _ hob
      obtain ⟨ad',hA',hN,⟨cur,et,hcur⟩,hat⟩:=h4 (by omega)
      rw [hrv] at h2
      subst hA'
      obtain ⟨rfl,rfl,rfl⟩:ad = ad'∧n = xs.length∧c = c':=by
       injection h2 with h2 h11 h12; injection h2 with h2; exact ⟨h2,h11,h12⟩
      have hKd:=V_cells hV
      have hKd2:K w (fun _=>False) i.ty dx (a.eval x).cells.toList:=K_flat hf2 hKd
      have hl:=h3.length
      have hjc:css[j.toNat]? = some css[j.toNat]:=List.getElem?_eq_getElem (by omega)
      have hKj:K w (fun _=>False) te (xs.getD j.toNat te.zero) css[j.toNat]:=by
       rw [List.getD_eq_getElem?_getD,List.getElem?_eq_getElem hj1]
       exact h3.get (List.getElem?_eq_getElem hj1) hjc
      obtain ⟨h11,h12⟩:=put_K hKd2 hput hKj
      have hfl:=flat_len h3
      have hflat:=flat_length hfl
      have hjsz:j.toNat * te.sz + te.sz≤xs.length * te.sz:=by
       have:(j.toNat + 1) * te.sz≤xs.length * te.sz:=Nat.mul_le_mul_right _ hj1
       rwa [Nat.succ_mul] at this
      rw [← hl] at hflat
      have hlen0:0 < css.flatten.length:=by rw [hflat]; omega
      have hspot:ad.spot = none:=by
       have h13:=hat 0 _ (List.getElem?_eq_getElem hlen0)
       rw [add_zero'] at h13
       simp only [World.cell?,hcur] at h13
       split at h13
       ·cases h13
       ·rename_i hq; simpa using hq
      obtain ⟨g,o0,sp⟩:=ad
      simp only at hspot hN hcur
      subst hspot
      obtain ⟨hcut,hfit⟩:=at_list (cur:=cur.toList) (C:=css.flatten) (o:=o0) (by
       intro q u hu
       have:=hat q u hu
       rw [add_at'] at this
       simp only [World.cell?,hcur] at this
       simpa using this)
      have hfit:=hfit hlen0
      simp only [Array.length_toList] at hfit
      rw [add_at'] at hpv
      have hrun:=run_storeVar (w:=w) ht hcur hV (off:=o0 + (j.toNat * te.sz + off)) (by omega)
      have hvl:=K_len hKd
      have hoth:∀ k,k≠g→(w.setRow g (cur.toList.take (o0 + (j.toNat * te.sz + off)) ++ (a.eval x).cells.toList ++ cur.toList.drop (o0 + (j.toNat * te.sz + off) + i.ty.sz)).toArray).heap[k]? = w.heap[k]?:=fun k hk=>setRow_other _ _ _ _ hk
      have hsz:(w.setRow g (cur.toList.take (o0 + (j.toNat * te.sz + off)) ++ (a.eval x).cells.toList ++ cur.toList.drop (o0 + (j.toNat * te.sz + off) + i.ty.sz)).toArray).heap.size = w.heap.size:=by simp
      have hnew:(w.setRow g (cur.toList.take (o0 + (j.toNat * te.sz + off)) ++ (a.eval x).cells.toList ++ cur.toList.drop (o0 + (j.toNat * te.sz + off) + i.ty.sz)).toArray).heap[g]? = some (.cells (cur.toList.take (o0 + (j.toNat * te.sz + off)) ++ (a.eval x).cells.toList ++ cur.toList.drop (o0 + (j.toNat * te.sz + off) + i.ty.sz)).toArray et (0,0)):=setRow_heap _ _ _ _ _ _ hcur
      have hbel:Below g w (w.setRow g (cur.toList.take (o0 + (j.toNat * te.sz + off)) ++ (a.eval x).cells.toList ++ cur.toList.drop (o0 + (j.toNat * te.sz + off) + i.ty.sz)).toArray):=below_setRow (Below.refl _ _) (Nat.le_refl g) _
      revert hrun hoth hsz hnew hbel
      generalize hrow:(cur.toList.take (o0 + (j.toNat * te.sz + off)) ++ (a.eval x).cells.toList ++ cur.toList.drop (o0 + (j.toNat * te.sz + off) + i.ty.sz)).toArray = row
      generalize w.setRow g row = w1
      intro hrun hoth hsz hnew hbel
      have hgM:∀ k,¬ Lin.N k→w1.heap[k]? = w.heap[k]?:=fun k hk=>hoth k (fun e=>hk (e ▸ hN))
      have hlt:=lt_of_obj hob
      have hO':∀ s',St.obj (st.ob.set 0 (some (.row e te (xs.set j.toNat v')))) s' = if 0 = s' then some (.row e te (xs.set j.toNat v')) else St.obj st.ob s':=by
       intro s'; rw [obj_set]; simp [hlt]
      have how:∀ k,Ow β (st.ob.set 0 (some (.row e te (xs.set j.toNat v')))) k→Ow β st.ob k:=by
       rintro k ⟨s',o',h1,h2⟩
       rw [hO'] at h1
       by_cases es:0 = s'
       ·subst es; exact ⟨0,_,hob,h2⟩
       ·rw [if_neg es] at h1; exact ⟨s',o',h1,h2⟩
      have hmv:Mv w w1 (okD w B okA β st.ob) (okD w1 B okA β (st.ob.set 0 (some (.row e te (xs.set j.toNat v'))))):=fun fr k hk hlt'=>by
       have:=hgM k (hs.dN hk)
       exact ⟨⟨hk.1,fun h=>hk.2.1 (how k h),fun h=>⟨(hk.2.2 h).1,(hk.2.2 h).2.step this⟩⟩,by omega,this⟩
      have hone:∀ s' e' t' xs',St.obj (st.ob.set 0 (some (.row e te (xs.set j.toNat v')))) s' = some (.row e' t' xs')→s' = 0:=by
       intro s' e' t' xs' h
       rw [hO'] at h
       split at h
       ·rename_i h0; exact h0.symm
       ·exact hs.one _ _ _ _ h
      refine fin _ (by rw [hpv]; exact hrun) (hn β ⟨st.tm,st.ob.set 0 (some (.row e te (xs.set j.toNat v')))⟩ a _ { len:=hs.len,tm:=fun q A hA=>(hs.tm q A hA).step hmv (fun s1 h1=>⟨rfl,?_,fun bx sh t x ho' k hk=>hgM k (hs.owN ⟨s1,_,ho',hk⟩)⟩),ob:=?_,apart:=?_,below:=hs.below.transM ⟨hbel.os,hbel.tape,hbel.output,by omega,fun k _ hk=>hgM k (fun h=>hk (.inr (.inl h)))⟩,mrk:=hs.mrk.keep (fun k hk=>hgM k (fun h=>(hs.ltN k h).2.2 hk)),lt:=hs.lt,one:=hone,ltN:=hs.ltN,ltT:=hs.ltT,size:=by rw [hsz]; exact hs.size,arg:=hs.arg,pin:=(fun h0 bx1 sh1 t1 x1 h1=>(by rw [hO',if_pos rfl] at h1; cases h1)),defers:=hs.defers } h)
      ·by_cases es:0 = s1
       ·subst es
        unfold Same; rw [hob,hO']; simp
       ·exact Same.of_eq (by rw [hO',if_neg es])
      ·intro s' o' ho'
       simp only [hO'] at ho'
       by_cases es:0 = s'
       ·subst es
        simp at ho'
        subst ho'
        refine ⟨h0,some ⟨g,o0,none⟩,c,css.set j.toNat _,by rw [List.length_set]; exact hrv,by rw [List.length_set]; exact hlc,(h3.imp (fun x c hx=>K_step (fun k hk _=>hk.elim) hx)).set j.toNat (K_step (fun k hk _=>hk.elim) h12),fun _=>⟨⟨g,o0,none⟩,rfl,hN,⟨_,_,hnew⟩,?_⟩⟩
        have hA:=(at_row hnew o0).take (xs.length * te.sz)
        have hre:((row.toList.drop o0).take (xs.length * te.sz)) = (css.set j.toNat (css[j.toNat].take off ++ (a.eval x).cells.toList ++ css[j.toNat].drop (off + i.ty.sz))).flatten:=by
         rw [← hrow]
         simp only
         have hd:(cur.toList.take (o0 + (j.toNat * te.sz + off)) ++ (a.eval x).cells.toList ++ cur.toList.drop (o0 + (j.toNat * te.sz + off) + i.ty.sz)).drop o0 = (cur.toList.drop o0).take (j.toNat * te.sz + off) ++ (a.eval x).cells.toList ++ (cur.toList.drop o0).drop (j.toNat * te.sz + off + i.ty.sz):=by
          rw [List.append_assoc,List.drop_append_of_le_length (by simp; omega),List.drop_take,Nat.add_sub_cancel_left,List.drop_drop,← List.append_assoc]
          congr 2
          omega
         rw [hd,flat_set (sz:=te.sz) j.toNat hfl (by omega) (K_len h12)]
         have hjf:css[j.toNat] = (css.flatten.drop (j.toNat * te.sz)).take te.sz:=(flat_get hfl hjc).symm
         rw [hjf]
         have hcut':(cur.toList.drop o0).take (xs.length * te.sz) = css.flatten:=by rw [← hflat]; exact hcut
         rw [← hcut']
         exact splice_take (cur.toList.drop o0) (a.eval x).cells.toList (j.toNat * te.sz) off i.ty.sz te.sz (xs.length * te.sz) hvl h11 hjsz (by simp; omega)
        rw [hre] at hA
        exact hA
       ·rw [if_neg es] at ho'
        have hnr:∀ e1 t1 x1,o'≠.row e1 t1 x1:=by
         rintro e1 t1 x1 rfl
         exact es (hs.one _ _ _ _ ho').symm
        exact (hs.ob s' o' ho').stepNR hnr hmv (fun k hk=>hgM k (hs.owN ⟨s',o',ho',hk⟩))
      ·intro s1 s2 o1 o2 k h1 h2 h3 h4
       simp only [hO'] at h1 h2
       have:∀ s',(∃ o',(if 0 = s' then some (.row e te (xs.set j.toNat v')) else St.obj st.ob s') = some o')→∃ o',St.obj st.ob s' = some o':=by
        rintro s' ⟨o',h⟩
        by_cases es:0 = s'
        ·subst es; exact ⟨_,hob⟩
        ·rw [if_neg es] at h; exact ⟨_,h⟩
       obtain ⟨o1',g1⟩:=this s1 ⟨_,h1⟩
       obtain ⟨o2',g2⟩:=this s2 ⟨_,h2⟩
       exact hs.apart s1 s2 o1' o2' k g1 g2 h3 h4
     ·cases h
    ·cases h
   ·cases h
  ·rename_i t' y hA
   rw [hA] at hp
   split at h
   ·rename_i hc
    obtain ⟨e1,hsc⟩:=hc
    obtain ⟨ad,cs,h1,h2,h3,h4⟩:=hp
    subst e1
    have hKd:=V_cells hV
    have hu:∃ u v,cs = [u]∧(a.eval x).cells.toList = [v]∧Sc u v∧v.oneCell' = true∧a.eval x = v:=by
     obtain ⟨cd,k1,k2⟩:=hV
     revert hsc h2 hKd k1 k2
     generalize i.ty = T at *
     intro hsc h2 hKd k1 k2
     cases T with
     | int k=>obtain ⟨n,rfl⟩:=h2; simp only [K] at hKd k1; subst k1; exact ⟨_,_,rfl,hKd,.inr (.inl ⟨_,_,_,rfl,rfl⟩),rfl,k2⟩
     | bool=>obtain ⟨n,rfl⟩:=h2; simp only [K] at hKd k1; subst k1; exact ⟨_,_,rfl,hKd,.inr (.inr (.inl ⟨_,_,rfl,rfl⟩)),rfl,k2⟩
     | str=>obtain ⟨n,rfl⟩:=h2; simp only [K] at hKd k1; subst k1; exact ⟨_,_,rfl,hKd,.inr (.inr (.inr ⟨_,_,rfl,rfl⟩)),rfl,k2⟩
     | _=>simp [Ty.scal] at hsc
    obtain ⟨u,v,rfl,hc2,hs2,hs3,hv⟩:=hu
    have hcell:(Lin.w0).cell? ad = some u:=by have:=h3 0 u rfl; rwa [add_zero'] at this
    obtain ⟨g1,g2⟩:=mark_store (P:=P) hs.mrk h4 hcell hs2 hs3
    have hz:(sizeOf t).run P w = .ok (a.eval x).cells.size w:=by
     rw [run_size ht w,← K_len hKd,Array.length_toList]
    have hrun:(Instr.storeAt t (a.eval p) (a.eval x)).run P w = .ok () (w.setCell ad v):=by
     rw [h1]
     simp only [Instr.storeAt,Instr.sureAddr,Sem.run_bind,Sem.run_pure,Result.andThen_ok,storeVar,hz,hc2]
     simp [storeCells,add_zero',g1]
    have hoth:∀ k,¬ Lin.M k→(w.setCell ad v).heap[k]? = w.heap[k]?:=fun k hk=>Below.heap_setCell _ _ _ _ (fun e=>hk (e ▸ h4))
    have hsz:(w.setCell ad v).heap.size = w.heap.size:=by simp [World.setCell]
    have hmv:Mv w (w.setCell ad v) (okD w B okA β st.ob) (okD (w.setCell ad v) B okA β st.ob):=fun fr k hk hlt=>by
     have:=hoth k (hs.dM hk)
     exact ⟨⟨hk.1,hk.2.1,fun h=>⟨(hk.2.2 h).1,(hk.2.2 h).2.step this⟩⟩,by omega,this⟩
    refine fin _ hrun (hn β st a _ { len:=hs.len,tm:=fun j A hA=>(hs.tm j A hA).step hmv (fun s _=>⟨rfl,Same.refl _ _,fun bx sh t x ho' k hk=>hoth k (hs.owM ⟨s,_,ho',hk⟩)⟩),ob:=fun s o' ho'=>(hs.ob s o' ho').step (fun k hk=>hoth k (hs.ltN k hk).2.2) hmv (fun k hk=>hoth k (hs.owM ⟨s,o',ho',hk⟩)),apart:=hs.apart,below:=hs.below.transM ⟨rfl,rfl,rfl,by omega,fun k _ hk=>hoth k (fun h=>hk (.inl h))⟩,mrk:=g2,lt:=hs.lt,one:=hs.one,ltN:=hs.ltN,ltT:=hs.ltT,size:=by rw [hsz]; exact hs.size,arg:=hs.arg,pin:=hs.pin,defers:=hs.defers } h)
   ·cases h
  ·cases h
 ·cases h
end
end Go.Fil
