/- Regions: operations one behind the other; operations in an order that is drawn. -/
import Derived.Test.YtofllafpneanoaaGreatDoorFilTrees
import Derived.Orders
set_option linter.unusedSectionVars false
namespace Go.Fil
open Go.RowKit
set_option linter.unusedVariables false
set_option linter.unusedSimpArgs false
theorem list_set_self {α:Type} {l:List α} {i:Nat} {x:α} (h:l[i]? = some x):l.set i x = l:=by
 apply List.ext_getElem?
 intro j
 rw [List.getElem?_set]
 by_cases e:i = j
 ·subst e; rw [h]; simp [(List.getElem?_eq_some_iff.1 h).1]
 ·simp [e]
section
variable [Lin] {P:Program} {E:Env} {ops:Array Oper} {o:Oper} {a:Act} {w:World} {Q:Exit→Act→World→Prop} {B:Nat} {okA:Nat→Prop} {w0:World} {β:Nat→Value} {st:St} {ρ:Type} {r:ρ} {K1:St→Option ρ}
theorem guard_sound (hs:Sim B okA w0 β st a w) {Ka Kb:St→Option ρ} (h:guardK ops o st Ka Kb = some r):(Region.wanted o (yielded ops a.tmps) = true∧Ka st = some r)∨(Region.wanted o (yielded ops a.tmps) = false∧Kb st = some r):=by
 unfold guardK at h
 split at h
 ·rename_i hg
  exact .inl ⟨by simp [Region.wanted,hg],h⟩
 ·rename_i j want hg
  split at h
  ·rename_i t ht
   split at h
   ·rename_i fr b hA
    have hv:=hs.tm t _ hA
    have hb:=bool_of_V hv
    have hlt:t < a.tmps.size:=by rw [hs.len]; exact (List.getElem?_eq_some_iff.1 hA).1
    have hy:yielded ops a.tmps j = some b:=by
     unfold yielded
     rw [ht]
     have:a.tmps[t]? = some (.bool b):=by
      rw [Array.getElem?_eq_getElem hlt]
      rw [Array.getD_eq_getD_getElem?,Array.getElem?_eq_getElem hlt] at hb
      simpa using hb
     simp [this]
    have hw:Region.wanted o (yielded ops a.tmps) = (some b == some want):=by simp [Region.wanted,hg,hy]
    rw [hw]
    rcases br_some h with ⟨hb',h⟩ | ⟨hb',h⟩
    ·subst hb'
     have hst:({ tm:=st.tm.set t (.d .bool fr true),ob:=st.ob }:St) = st:=by rw [list_set_self hA]
     simp only [hst] at h
     cases want
     ·exact .inr ⟨rfl,h⟩
     ·exact .inl ⟨rfl,h⟩
    ·subst hb'
     have hst:({ tm:=st.tm.set t (.d .bool fr false),ob:=st.ob }:St) = st:=by rw [list_set_self hA]
     simp only [hst] at h
     cases want
     ·exact .inl ⟨rfl,h⟩
     ·exact .inr ⟨rfl,h⟩
   ·rename_i hA
    have hv:a.tmps.getD t undef = undef:=hs.tm t _ hA
    have hy:yielded ops a.tmps j = none:=by
     unfold yielded
     rw [ht]
     have hlt:t < a.tmps.size:=by rw [hs.len]; exact (List.getElem?_eq_some_iff.1 hA).1
     have:a.tmps[t]? = some undef:=by
      rw [Array.getElem?_eq_getElem hlt]
      rw [Array.getD_eq_getD_getElem?,Array.getElem?_eq_getElem hlt] at hv
      simpa using hv
     simp [this,undef]
    exact .inr ⟨by simp [Region.wanted,hg,hy],h⟩
   ·cases h
  ·cases h
theorem V_flat {w w1:World} {ok ok':Nat→Prop} {t:Ty} {x:t.T} {v:Value} (hf:t.flat = true) (h:V w ok t x v):V w1 ok' t x v:=by
 obtain ⟨cs,h1,h2⟩:=h
 exact ⟨cs,K_flat hf h1,h2⟩
theorem split_flat {w:World} {ok:Nat→Prop} {G:Bool→Nat→Prop} {fr fr':Bool}:∀ {t:Ty} {x:t.T} {vs:List Value},t.flat = true→All2 (fun d u=>V w ok d.t d.x u) (split fr t x) vs→All2 (fun d u=>V w (G d.fr) d.t d.x u) (split fr' t x) vs
 | .pair a b,x,v :: vs,hf,h=>by
  simp only [Ty.flat,Bool.and_eq_true] at hf
  exact ⟨V_flat hf.1 h.1,split_flat hf.2 h.2⟩
 | .pair a b,x,[],_,h=>h.elim
 | .int _,_,[],_,_=>trivial
 | .bool,_,[],_,_=>trivial
 | .str,_,[],_,_=>trivial
 | .unit,_,[],_,_=>trivial
 | .slice _ _,_,_,hf,_=>by simp [Ty.flat] at hf
 | .int _,_,_ :: _,_,h=>h.elim
 | .bool,_,_ :: _,_,h=>h.elim
 | .str,_,_ :: _,_,h=>h.elim
 | .unit,_,_ :: _,_,h=>h.elim
theorem lend_sound {next:Act→World→Prop} (he:EnvOk P E) (hs:Sim B okA w0 β st a w) {c:Call} {f:FuncId} (ho:o.op = .call c) (hc:c.callee = .value (.func f)) {Kd:Dl→Option ρ} {K0:Option ρ} (h:lendK E o st f c.argTypes.toList (c.args.toList.map st.val) Kd K0 = some r) (h0:K0 = some r→o.wp P a w next Q)
  (hn:∀ δ β' a' w',Sim B okA w0 β' (δ.app o.dst st) a' w'→Kd δ = some r→next a' w'):o.wp P a w next Q:=by
 unfold lendK at h
 split at h
 ·rename_i ds hds
  split at h
  ·rename_i cr hcr
   have hok:=he.C _ _ _ hcr
   obtain ⟨fn,g1,g2,g3⟩:=hok.fn
   have hargs:=dtsL_V he hs hds
   have hrun:(execOp a.eval o).run P w = .ok (.enter f (c.args.toList.map a.eval).toArray) w:=by
    have h3:(c.args.toList.map a.eval).toArray = c.args.map a.eval:=by
     apply Array.ext'; simp
    rw [h3]
    simp [execOp,ho,resolve,hc,Act.eval,Deferred.ofValue,invoke,callFunc,program,Sem.run,g1,g2,g3]
   split at h
   ·rename_i hfl
    obtain ⟨y,h1,h2⟩:=Option.bind_eq_some_iff.1 h
    have hcall:=hok.goes y h1 w (fun k=>k < w.heap.size) _ (fun k hk=>hk) hargs
    unfold Oper.wp
    rw [hrun]
    show Calls P f _ w _
    refine hcall.mono ?_
    rintro e w1 ⟨v,rfl,hv,_,hg⟩
    refine hn (.v (retA cr.one cr.t true y)) β _ w1 ((hs.grow hg).set (v:=v) ?_ o.dst) h2
    unfold retA
    unfold RetV at hv
    cases hone:cr.one
    ·simp only [hone,Bool.false_eq_true,if_false] at hv ⊢
     obtain ⟨vs,h4,h5⟩:=hv
     exact ⟨vs,h4,split_flat hfl h5⟩
    ·simp only [hone,if_true] at hv ⊢
     exact V_flat hfl hv
   ·split at h
    ·rename_i e te fr0 res s hd hnf
     split at h
     ·rename_i hfree hfl
      obtain ⟨y,h1,h2⟩:=Option.bind_eq_some_iff.1 h
      have hcall:=hok.goes y h1 w (fun k=>k < w.heap.size) _ (fun k hk=>hk) hargs
      unfold Oper.wp
      rw [hrun]
      show Calls P f _ w _
      refine hcall.mono ?_
      rintro e1 w1 ⟨v,rfl,_,hro,hg⟩
      obtain ⟨css,k1,k2⟩:=hro rfl
      have hnr:∀ {k},owns v k→blk v = some k:=fun h=>owns_of h (by rcases k1.2 with ⟨rfl,_⟩ | ⟨g,cap,cur,rfl,_⟩ <;> (intros; simp))
      have hbv:∀ k,owns v k→w.heap.size≤k:=fun k hk=>(own_lt' k1 (hnr hk)).1
      have hlt:s < st.ob.length:=(List.getElem?_eq_some_iff.1 hfree).1
      have hrow:RepO w1 B (okD w1 B okA (upd β s v) (st.ob.set s (some (.arr e te true y)))) v (.arr e te true y):=by
       refine ⟨css,⟨k1.1,?_⟩,k2.imp (fun x cl hx=>K_flat hfl hx)⟩
       rcases k1.2 with h3 | ⟨g,cap,cur,h3,h4,h5⟩
       ·exact .inl h3
       ·exact .inr ⟨g,cap,cur,h3,Nat.le_trans hs.size h4,h5⟩
      have hnew:=hs.new hfree hg (v:=v) (tv:=v) (ob':=.arr e te true y) (A:=.own s) hbv hrow ⟨by simp [upd],e,te,true,y,by rw [obj_set]; simp [hlt]⟩
      have:=hn (.m s (.own s) (.arr e te true y)) _ _ w1 hnew h2
      rw [hd]
      exact this
     ·exact h0 h
    ·exact h0 h
  ·exact h0 h
 ·exact h0 h
theorem eff_sound {next:Act→World→Prop} (he:EnvOk P E) (hs:Sim B okA w0 β st a w) (h:effK E o st K1 = some r)
  (hn:∀ β' st' a' w',Sim B okA w0 β' st' a' w'→K1 st' = some r→next a' w'):o.wp P a w next Q :=
 tre_sound he hs h (fun h0=>ct_sound he hs h0 (fun h0=>eff0_sound he hs h0 hn) hn) (fun _ _ _ _ hs' hk=>hn _ _ _ _ hs' hk)
theorem effL_sound {next:Act→World→Prop} (he:EnvOk P E) (hs:Sim B okA w0 β st a w) (h:effLK E o st K1 = some r)
  (hn:∀ β' st' a' w',Sim B okA w0 β' st' a' w'→K1 st' = some r→next a' w'):o.wp P a w next Q:=by
 unfold effLK at h
 split at h
 ·rename_i f ts xs hf
  split at h
  ·obtain ⟨c,ho,hc,h1,h2⟩:∃ c,o.op = .call c∧c.callee = .value (.func f)∧c.argTypes.toList = ts∧c.args.toList = xs:=by
    unfold funcOf at hf
    split at hf
    ·rename_i c ho
     split at hf
     ·rename_i f' hc
      simp only [Option.some.injEq,Prod.mk.injEq] at hf
      obtain ⟨rfl,h1,h2⟩:=hf
      exact ⟨c,ho,hc,h1,h2⟩
     ·cases hf
    ·cases hf
   subst h1
   subst h2
   exact lend_sound he hs ho hc h (fun h'=>eff_sound he (hs.freezeAll _) h' hn) (fun δ β' a' w' hs' hk=>hn _ _ _ _ hs' hk)
  ·exact eff_sound he (hs.freezeAll _) h hn
 ·exact eff_sound he (hs.freezeAll _) h hn
/-- An object at a free site, that becomes data at once. -/
theorem thaw (hs:Sim B okA w0 β st a w) {s e:Nat} {te:Ty} {fr:Bool} {xs:List te.T} (hfree:st.ob[s]? = some none):St.freeze1 ⟨st.tm.set s (.own s),st.ob.set s (some (.arr e te fr xs))⟩ s = st.set (some s) (.d (.slice e te) fr xs):=by
 have hlt:s < st.ob.length:=(List.getElem?_eq_some_iff.1 hfree).1
 have hn:=obj_none hfree
 unfold St.freeze1
 have hob:St.obj (st.ob.set s (some (.arr e te fr xs))) s = some (.arr e te fr xs):=by rw [obj_set]; simp [hlt]
 rw [hob]
 simp only [St.set]
 congr 1
 ·rw [List.map_set]
  have h1:st.tm.map (A.freeze s e te fr xs) = st.tm:=by
   apply List.ext_getElem?
   intro j
   rw [List.getElem?_map]
   cases hj:st.tm[j]? with
   | none=>rfl
   | some A =>
    have hr:=hs.tm j A hj
    simp only [Option.map_some,Option.some.injEq]
    cases A with
    | own s' =>
     have:s'≠s:=by
      rintro rfl
      obtain ⟨_,e2,te2,f2,x2,h3⟩:=hr
      rw [hn] at h3; cases h3
     simp [A.freeze,this]
    | ep s' i o t' =>
     have:s'≠s:=by
      rintro rfl
      obtain ⟨g,n,c,_,e2,te2,f2,x2,h3,_⟩:=hr
      rw [hn] at h3; cases h3
     simp [A.freeze,this]
    | _=>rfl
  rw [h1]
  simp [A.freeze]
 ·rw [set_set',list_set_self hfree]
theorem effD0_sound {next:Act→World→Prop} (he:EnvOk P E) (hs:Sim B okA w0 β st a w) {Kd:Dl→Option ρ} (h:effDK0 E o st Kd = some r)
  (hn:∀ δ β' a' w',Sim B okA w0 β' (δ.app o.dst st) a' w'→Kd δ = some r→next a' w'):o.wp P a w next Q:=by
 have hcomp:(compK E o st.val st.ob fun A=>Kd (.v A)) = some r→o.wp P a w next Q:=fun h =>
  comp_sound he hs h (fun A v w1 hg hA hk=>hn (.v A) _ _ _ ((hs.grow hg).set hA o.dst) hk)
 cases ho:o.op with
 | alloc t =>
  simp only [effDK0,ho] at h
  split at h
  ·rename_i i s hT hd
   split at h
   ·rename_i hfree
    have h':effK0 E o st some = some ((Dl.m s (.ptr s 0 i.ty) (.box i.ty true i.ty.zero)).app o.dst st):=by
     simp only [effK0,ho,hT,hd,hfree,Dl.app]
    exact alloc_sound he hs ho h' (fun β' st' a' w' hs' e=>by
     injection e with e; subst e
     exact hn _ β' a' w' hs' h)
   ·cases h
  ·cases h
 | buildSlice t n ps =>
  simp only [effDK0,ho] at h
  split at h
  ·rename_i i s hT hd
   split at h
   ·rename_i e te hty hfree
    split at h
    ·rename_i ie hTe
     split at h
     ·rename_i hc
      split at h
      ·rename_i xs fr hx
       have h':effK0 E o st some = some ⟨st.tm.set s (.own s),st.ob.set s (some (.arr e te fr xs))⟩:=by
        simp only [effK0,ho,hT,hd,hty,hfree,hTe]
        rw [if_pos hc,hx]
       exact lit_sound he hs ho h' (fun β' st' a' w' hs' e'=>by
        injection e' with e'; subst e'
        have:=hs'.freeze s
        rw [thaw hs hfree] at this
        exact hn (.v _) β' a' w' (by rw [hd]; exact this) h)
      ·cases h
     ·cases h
    ·cases h
   ·cases h
  ·cases h
 | store t p x =>
  simp only [effDK0,ho] at h
  split at h
  ·rename_i d hdt hd
   split at h
   ·rename_i s off t2 hA
    split at h
    ·rename_i t0 fr v hob
     split at h
     ·rename_i v' hv'
      have h':effK0 E o st some = some ((Dl.s s (.box t0 (fr && d.fr) v')).app o.dst st):=by
       simp only [effK0,ho,hdt,hd,hA,hob,hv',Dl.app]
      exact store_sound he hs ho h' (fun β' st' a' w' hs' e=>by
       injection e with e; subst e
       exact hn _ β' a' w' hs' h)
     ·cases h
    ·cases h
   ·rename_i s j off t2 hA
    split at h
    ·rename_i e te fr xs hob
     split at h
     ·rename_i v' hv'
      have h':effK0 E o st some = some ((Dl.s s (.arr e te (fr && d.fr) (xs.set j.toNat v'))).app o.dst st):=by
       simp only [effK0,ho,hdt,hd,hA,hob,hv',Dl.app]
      exact store_sound he hs ho h' (fun β' st' a' w' hs' e=>by
       injection e with e; subst e
       exact hn _ β' a' w' hs' h)
     ·cases h
    ·cases h
   ·cases h
  ·cases h
 | call c =>
  simp only [effDK0,ho] at h
  split at h
  ·rename_i hc
   split at h
   ·rename_i x y t t' ha hat
    unfold appendDK at h
    split at h
    ·rename_i i e' te' fr' ys d hT hdt hd
     split at h
     ·rename_i e te hty
      split at h
      ·rename_i ie zs hTe hcast
       split at h
       ·rename_i hcond
        split at h
        ·rename_i s1 hA
         split at h
         ·rename_i e1 t1 fr1 xs hob
          split at h
          ·rename_i ws hcast2
           rcases br_some h with ⟨hb,h⟩ | ⟨_,h⟩
           ·have h':appendK E o st t t' x y some = some ((Dl.k s1 (.arr e te (fr1 && fr') (ws ++ zs)) d).app o.dst st):=by
             simp only [appendK,hT,hdt,hd,hty,hTe,hcast]
             rw [if_pos hcond]
             simp only [hA,hob,hcast2,hb,Dl.app]
             rfl
            exact append_sound he hs ho hc ha hat h' (fun β' st' a' w' hs' e=>by
             injection e with e; subst e
             exact hn _ β' a' w' hs' h)
           ·cases h
          ·cases h
         ·cases h
        ·cases h
       ·cases h
      ·cases h
     ·cases h
    ·cases h
   ·cases h
  ·rename_i f hc
   exact lend_sound he hs ho hc h hcomp hn
  ·exact hcomp h
 | _=>exact hcomp (by simpa only [effDK0,ho] using h)
theorem effD_sound {next:Act→World→Prop} (he:EnvOk P E) (hs:Sim B okA w0 β st a w) {Kd:Dl→Option ρ} (h:effDK E o st Kd = some r)
  (hn:∀ δ β' a' w',Sim B okA w0 β' (δ.app o.dst st) a' w'→Kd δ = some r→next a' w'):o.wp P a w next Q :=
 tre_sound he hs h (fun h0=>effD0_sound he hs h0 hn) hn
theorem step_sound (he:EnvOk P E) (hs:Sim B okA w0 β st a w) {i:Nat} (ho:ops[i]? = some o) (h:stepK E ops o st K1 = some r) {next:Act→World→Prop}
  (hn:∀ β' st' a' w',Sim B okA w0 β' st' a' w'→K1 st' = some r→next a' w'):wpOp P ops Q i next a w:=by
 unfold wpOp
 rw [ho]
 show if Region.wanted o (yielded ops a.tmps) = true then _ else _
 unfold stepK at h
 rcases guard_sound hs h with ⟨hw,h⟩ | ⟨hw,h⟩
 ·rw [if_pos hw]
  exact .inl (effL_sound he hs h hn)
 ·rw [if_neg (by simp [hw])]
  exact hn _ _ _ _ (hs.set (A:=.no) rfl o.dst) h
theorem ops_sound (he:EnvOk P E):∀ (l:List Oper) (idx:List Nat),idx.map (fun i=>ops[i]?) = l.map some→∀ {β:Nat→Value} {st:St} {a:Act} {w:World},Sim B okA w0 β st a w→opsK E ops l st K1 = some r →
  (∀ β' st' a' w',Sim B okA w0 β' st' a' w'→K1 st' = some r→Q .normal a' w')→wpOps P ops Q idx a w
 | [],[],_,β,st,a,w,hs,h,hq=>by
  simp only [wpOps]
  exact hq _ _ _ _ hs h
 | o :: l,i :: idx,hi,β,st,a,w,hs,h,hq=>by
  simp only [List.map_cons,List.cons.injEq] at hi
  rw [wpOps_cons]
  exact step_sound he hs hi.1 h (fun β' st' a' w' hs' h'=>ops_sound he l idx hi.2 hs' h' hq)
 | [],_ :: _,hi,_,_,_,_,_,_,_=>by simp at hi
 | _ :: _,[],hi,_,_,_,_,_,_,_=>by simp at hi
theorem br_bind {σ:Type} (c:Bool) (x y:Option ρ) (F:ρ→Option σ):(br c x y).bind F = br c (x.bind F) (y.bind F):=by cases c <;> rfl
theorem bndK_bind {σ:Type} (A:A) (top:Nat) (F:Nat→Option ρ) (G:ρ→Option σ):(bndK A top F).bind G = bndK A top (fun n=>(F n).bind G):=by
 unfold bndK; split <;> simp [br_bind]
theorem lenK_bind {σ:Type} (ob:List (Option Ob)) (A:A) (F:Fil.A→Option ρ) (G:ρ→Option σ):(lenK ob A F).bind G = lenK ob A (fun n=>(F n).bind G):=by
 unfold lenK; split <;> (try rfl)
 all_goals (split <;> try rfl)
 all_goals (split <;> rfl)
theorem intK_bind {σ:Type} (op:BinOp) (k:IntKind) (x y:Int) (F:A→Option ρ) (G:ρ→Option σ):(intK op k x y F).bind G = intK op k x y (fun n=>(F n).bind G):=by
 cases op <;> simp [intK,br_bind]
theorem shK_bind {σ:Type} (op:BinOp) (k:IntKind) (x y:Int) (F:A→Option ρ) (G:ρ→Option σ):(shK op k x y F).bind G = shK op k x y (fun n=>(F n).bind G):=by
 cases op <;> simp [shK,br_bind]
theorem strK_bind {σ:Type} (op:BinOp) (x y:ByteArray) (F:A→Option ρ) (G:ρ→Option σ):(strK op x y F).bind G = strK op x y (fun n=>(F n).bind G):=by
 cases op <;> simp [strK,br_bind]
theorem boolK_bind {σ:Type} (op:BinOp) (x y:Bool) (F:A→Option ρ) (G:ρ→Option σ):(boolK op x y F).bind G = boolK op x y (fun n=>(F n).bind G):=by
 cases op <;> simp [boolK,br_bind]
theorem binK_bind {σ:Type} (E:Env) (op:BinOp) (xt:Nat) (x y:A) (F:A→Option ρ) (G:ρ→Option σ):(binK E op xt x y F).bind G = binK E op xt x y (fun n=>(F n).bind G):=by
 unfold binK
 split
 ·split
  ·exact shK_bind _ _ _ _ _ _
  ·split
   ·exact intK_bind _ _ _ _ _ _
   ·rfl
 ·exact strK_bind _ _ _ _ _
 ·split
  ·split
   ·exact boolK_bind _ _ _ _ _
   ·rfl
  ·rfl
 ·split
  ·split
   ·split
    ·exact boolK_bind _ _ _ _ _
    ·rfl
   ·rfl
  ·rfl
 ·rfl
theorem callK_bind {σ:Type} (E:Env) (f:FuncId) (ts:List Nat) (xs:List A) (F:A→Option ρ) (G:ρ→Option σ):(callK E f ts xs F).bind G = callK E f ts xs (fun n=>(F n).bind G):=by
 unfold callK
 split
 ·split
  ·rw [Option.bind_assoc]
  ·rfl
 ·rfl
theorem blenK_bind {σ:Type} (E:Env) (ob:List (Option Ob)) (t:Nat) (v:A) (F:A→Option ρ) (G:ρ→Option σ):(builtinLenK E ob t v F).bind G = builtinLenK E ob t v (fun n=>(F n).bind G):=by
 unfold builtinLenK
 split
 ·split
  ·split
   ·rfl
   ·exact lenK_bind _ _ _ _
  ·split
   ·exact lenK_bind _ _ _ _
   ·rfl
  ·rfl
 ·rfl
theorem minK_bind {σ:Type} (x y:A) (F:A→Option ρ) (G:ρ→Option σ):(minK x y F).bind G = minK x y (fun n=>(F n).bind G):=by
 unfold minK
 split
 ·split <;> rfl
 ·rfl
theorem maxK_bind {σ:Type} (x y:A) (F:A→Option ρ) (G:ρ→Option σ):(maxK x y F).bind G = maxK x y (fun n=>(F n).bind G):=by
 unfold maxK
 split
 ·split <;> rfl
 ·rfl
theorem pickK_bind {σ:Type} (j:Int) (F:Nat→Option ρ) (G:ρ→Option σ):∀ q m,(pickK j F q m).bind G = pickK j (fun n=>(F n).bind G) q m
 | _,0=>rfl
 | q,m + 1=>by simp only [pickK,br_bind,pickK_bind j F G (q + 1) m]
theorem compK_bind {σ:Type} (E:Env) (o:Oper) (val:Operand→A) (ob:List (Option Ob)) (F:A→Option ρ) (G:ρ→Option σ):(compK E o val ob F).bind G = compK E o val ob (fun n=>(F n).bind G):=by
 unfold compK
 split
 ·rfl
 ·rfl
 ·split
  ·exact br_bind _ _ _ _
  ·rfl
 ·split
  ·split <;> rfl
  ·split
   ·split <;> rfl
   ·rfl
  ·split <;> rfl
  ·split <;> rfl
  ·split <;> rfl
  ·split
   ·split <;> rfl
   ·rfl
  ·split
   ·split <;> rfl
   ·rfl
  ·split
   ·split <;> rfl
   ·rfl
  ·rfl
 ·split <;> rfl
 ·exact binK_bind _ _ _ _ _ _ _
 ·split <;> rfl
 ·split
  ·split <;> rfl
  ·split <;> rfl
  ·split
   ·split <;> rfl
   ·rfl
  ·rfl
 ·rename_i t x lo hi mx _
  split
  ·rfl
  ·split
   ·split
    ·cases hi <;> cases lo <;> simp [bndK_bind]
    ·rfl
   ·split
    ·cases hi <;> cases lo <;> simp [bndK_bind]
    ·rfl
   ·rfl
 ·split
  ·split
   ·split
    ·split
     ·split <;> rfl
     ·rfl
    ·split <;> rfl
    ·split <;> rfl
    ·split
     ·split <;> rfl
     ·rfl
    ·split
     ·split <;> rfl
     ·rfl
    ·split <;> rfl
    ·split <;> rfl
    ·split <;> rfl
    ·rfl
   ·rfl
  ·rfl
 ·split
  ·split
   ·split
    ·split
     ·split <;> rfl
     ·rfl
    ·rfl
   ·rfl
  ·rfl
 ·split
  ·split
   ·exact br_bind _ _ _ _
   ·rfl
  ·split
   ·exact br_bind _ _ _ _
   ·rfl
  ·split
   ·split
    ·exact br_bind _ _ _ _
    ·rfl
   ·rfl
  ·split
   ·split
    ·exact br_bind _ _ _ _
    ·rfl
   ·rfl
  ·split
   ·split
    ·exact pickK_bind _ _ _ _ _
    ·rfl
   ·rfl
  ·split
   ·split
    ·split
     ·exact br_bind _ _ _ _
     ·rfl
    ·rfl
   ·rfl
  ·rfl
 ·split
  ·split
   ·exact br_bind _ _ _ _
   ·rfl
  ·rfl
 ·repeat' (first | rfl | split)
 ·split
  ·split
   ·split
    ·split <;> rfl
    ·rfl
    ·rfl
   ·rfl
  ·rfl
 ·split
  ·split
   ·exact blenK_bind _ _ _ _ _ _
   ·rfl
  ·split
   ·exact minK_bind _ _ _ _
   ·rfl
  ·split
   ·exact maxK_bind _ _ _ _
   ·rfl
  ·exact callK_bind _ _ _ _ _ _
  ·rfl
 ·rfl
theorem compK_congr {val val':Operand→A} (h:∀ x,x∈o.op.operands→val x = val' x) (ob:List (Option Ob)) (F:A→Option ρ):compK E o val ob F = compK E o val' ob F:=by
 cases ho:o.op with
 | move x=>simp only [compK,ho]; rw [h x (by simp [ho,Op.operands])]
 | assign x=>simp only [compK,ho]; rw [h x (by simp [ho,Op.operands])]
 | pick c x y=>simp only [compK,ho]; rw [h x (by simp [ho,Op.operands]),h y (by simp [ho,Op.operands]),h c (by simp [ho,Op.operands])]
 | load t x=>simp only [compK,ho]; rw [h x (by simp [ho,Op.operands])]
 | nilCheck x=>simp only [compK,ho]; rw [h x (by simp [ho,Op.operands])]
 | binOp op xt x y yt=>simp only [compK,ho]; rw [h x (by simp [ho,Op.operands]),h y (by simp [ho,Op.operands])]
 | unOp op xt x=>simp only [compK,ho]; rw [h x (by simp [ho,Op.operands])]
 | convert s t x=>simp only [compK,ho]; rw [h x (by simp [ho,Op.operands])]
 | slice t x lo hi mx =>
  simp only [compK,ho]
  rw [h x (by simp [ho,Op.operands])]
  cases lo with
  | none=>cases hi with
   | none=>rfl
   | some y=>simp only [h y (by simp [ho,Op.operands])]
  | some z=>cases hi with
   | none=>simp only [h z (by simp [ho,Op.operands])]
   | some y=>simp only [h z (by simp [ho,Op.operands]),h y (by simp [ho,Op.operands])]
 | fieldAddr s x f=>simp only [compK,ho]; rw [h x (by simp [ho,Op.operands])]
 | field s x f=>simp only [compK,ho]; rw [h x (by simp [ho,Op.operands])]
 | indexAddr t x ix=>simp only [compK,ho]; rw [h x (by simp [ho,Op.operands]),h ix (by simp [ho,Op.operands])]
 | index t x ix=>simp only [compK,ho]; rw [h x (by simp [ho,Op.operands]),h ix (by simp [ho,Op.operands])]
 | extract x n=>simp only [compK,ho]; rw [h x (by simp [ho,Op.operands])]
 | build t ps =>
  simp only [compK,ho]
  have:(ps.toList.map fun p=>(p.1,val p.2)) = ps.toList.map fun p=>(p.1,val' p.2):=by
   apply List.map_congr_left
   intro p hp
   rw [h p.2 (by simp only [ho,Op.operands]; exact List.mem_toArray.2 (List.mem_map.2 ⟨p,hp,rfl⟩))]
  rw [this]
 | call c =>
  simp only [compK,ho]
  have hx:∀ x,x∈c.args.toList→val x = val' x:=by
   intro x hx
   refine h x ?_
   simp only [ho,Op.operands,Call.operands]
   exact Array.mem_append.2 (.inr (Array.mem_toList_iff.1 hx))
  have hm:c.args.toList.map val = c.args.toList.map val':=List.map_congr_left hx
  rw [hm]
  split
  ·split
   ·rename_i x t ha _
    rw [hx x (by rw [ha]; simp)]
   ·rfl
  ·split
   ·rename_i x y ha
    rw [hx x (by rw [ha]; simp),hx y (by rw [ha]; simp)]
   ·rfl
  ·split
   ·rename_i x y ha
    rw [hx x (by rw [ha]; simp),hx y (by rw [ha]; simp)]
   ·rfl
  ·rfl
  ·rfl
 | _=>simp only [compK,ho]
theorem lendK_bind {σ:Type} (f:FuncId) (ts:List Nat) (xs:List A) (F:Dl→Option ρ) (K0:Option ρ) (G:ρ→Option σ):(lendK E o st f ts xs F K0).bind G = lendK E o st f ts xs (fun δ=>(F δ).bind G) (K0.bind G):=by
 unfold lendK
 split
 ·split
  ·split
   ·rw [Option.bind_assoc]
   ·split
    ·split
     ·rw [Option.bind_assoc]
     ·rfl
    ·rfl
  ·rfl
 ·rfl
theorem appendDK_bind {σ:Type} (t t':Nat) (x y:Operand) (F:Dl→Option ρ) (G:ρ→Option σ):(appendDK E o st t t' x y F).bind G = appendDK E o st t t' x y (fun δ=>(F δ).bind G):=by
 unfold appendDK
 split
 ·split
  ·split
   ·split
    ·split
     ·split
      ·split
       ·rw [br_bind]; rfl
       ·rfl
      ·rfl
     ·rfl
    ·rfl
   ·rfl
  ·rfl
 ·rfl
theorem effDK0_bind {σ:Type} (F:Dl→Option ρ) (G:ρ→Option σ):(effDK0 E o st F).bind G = effDK0 E o st (fun δ=>(F δ).bind G):=by
 unfold effDK0
 split
 ·split
  ·split <;> rfl
  ·rfl
 ·split
  ·split
   ·split
    ·split
     ·split <;> rfl
     ·rfl
    ·rfl
   ·rfl
  ·rfl
 ·split
  ·split
   ·split
    ·split <;> rfl
    ·rfl
   ·split
    ·split <;> rfl
    ·rfl
   ·rfl
  ·rfl
 ·split
  ·split
   ·exact appendDK_bind _ _ _ _ _ _
   ·rfl
  ·rw [lendK_bind,compK_bind]
  ·exact compK_bind _ _ _ _ _ _
 ·exact compK_bind _ _ _ _ _ _
theorem storeT_bind {σ:Type} (t s:Nat) (p:List Stp) (off:Nat) (x:A) (F:Dl→Option ρ) (G:ρ→Option σ):(storeT E o st t s p off x F).bind G = storeT E o st t s p off x (fun δ=>(F δ).bind G):=by
 unfold storeT lt
 repeat' (first | rfl | split)
theorem callT_bind {σ:Type} (f:FuncId) (ts:List Nat) (xs:List A) (F:Dl→Option ρ) (K0:Option ρ) (G:ρ→Option σ):(callT E o st f ts xs F K0).bind G = callT E o st f ts xs (fun δ=>(F δ).bind G) (K0.bind G):=by
 unfold callT
 repeat' (first | rfl | (rw [Option.bind_assoc]; done) | split)
theorem callX_bind {σ:Type} (f:FuncId) (xs:List A) (F:Dl→Option ρ) (K0:Option ρ) (G:ρ→Option σ):(callX E o st f xs F K0).bind G = callX E o st f xs (fun δ=>(F δ).bind G) (K0.bind G):=by
 unfold callX lt
 split
 ·split
  ·split
   ·split
    ·rw [Option.bind_assoc]
     congr 1
     funext r
     split <;> rfl
    ·rfl
   ·rfl
  ·rfl
 ·rfl
theorem callP_bind {σ:Type} (f:FuncId) (ts:List Nat) (xs:List A) (F:Dl→Option ρ) (K0:Option ρ) (G:ρ→Option σ):(callP E o st f ts xs F K0).bind G = callP E o st f ts xs (fun δ=>(F δ).bind G) (K0.bind G):=by
 unfold callP
 repeat' (first | rfl | (rw [Option.bind_assoc]; done) | split)
theorem callF_bind {σ:Type} (f:FuncId) (ts:List Nat) (xs:List A) (F:Dl→Option ρ) (K0:Option ρ) (G:ρ→Option σ):(callF E o st f ts xs F K0).bind G = callF E o st f ts xs (fun δ=>(F δ).bind G) (K0.bind G):=by
 unfold callF
 repeat' (first | rfl | (rw [Option.bind_assoc]; done) | split)
theorem callQ_bind {σ:Type} (f:FuncId) (ts:List Nat) (xs:List A) (F:Dl→Option ρ) (K0:Option ρ) (G:ρ→Option σ):(callQ E o st f ts xs F K0).bind G = callQ E o st f ts xs (fun δ=>(F δ).bind G) (K0.bind G):=by
 unfold callQ
 repeat' (first | rfl | (rw [Option.bind_assoc]; done) | split)
theorem litT_bind {σ:Type} (t n:Nat) (ps:List (Nat × A)) (F:Dl→Option ρ) (G:ρ→Option σ):(litT E o st t n ps F).bind G = litT E o st t n ps (fun δ=>(F δ).bind G):=by
 unfold litT
 repeat' (first | rfl | split)
theorem buildT_bind {σ:Type} (t:Nat) (ps:List (Nat × A)) (F:Dl→Option ρ) (G:ρ→Option σ):(buildT E o st t ps F).bind G = buildT E o st t ps (fun δ=>(F δ).bind G):=by
 unfold buildT
 repeat' (first | rfl | split)
theorem makeT_bind {σ:Type} (t:Nat) (x y:A) (F:Dl→Option ρ) (G:ρ→Option σ):(makeT E o st t x y F).bind G = makeT E o st t x y (fun δ=>(F δ).bind G):=by
 unfold makeT
 repeat' (first | rfl | exact br_bind _ _ _ _ | split)
theorem boxT_bind {σ:Type} (t:Nat) (x:A) (F:Dl→Option ρ) (K0:Option ρ) (G:ρ→Option σ):(boxT E o st t x F K0).bind G = boxT E o st t x (fun δ=>(F δ).bind G) (K0.bind G):=by
 unfold boxT
 repeat' (first | rfl | split)
theorem appT_bind {σ:Type} (t t' s off:Nat) (tv:Ty) (y:A) (F:Dl→Option ρ) (G:ρ→Option σ):(appT E o st t t' s off tv y F).bind G = appT E o st t t' s off tv y (fun δ=>(F δ).bind G):=by
 unfold appT
 split
 ·split
  ·split
   ·split
    ·split
     ·rw [br_bind]
      congr 1
      repeat' (first | rfl | split)
     ·rfl
    ·rfl
   ·rfl
  ·rfl
 ·rfl
theorem treK_bind {σ:Type} (F:Dl→Option ρ) (K0:Option ρ) (G:ρ→Option σ):(treK E o st F K0).bind G = treK E o st (fun δ=>(F δ).bind G) (K0.bind G):=by
 unfold treK
 split
 ·repeat' (first | rfl | split)
 ·repeat' (first | rfl | split)
 ·exact boxT_bind _ _ _ _ _
 ·repeat' (first | rfl | exact buildT_bind _ _ _ _ | split)
 ·repeat' (first | rfl | exact litT_bind _ _ _ _ _ | split)
 ·repeat' (first | rfl | exact makeT_bind _ _ _ _ _ | split)
 ·split
  ·exact storeT_bind _ _ _ _ _ _ _
  ·rfl
 ·split
  ·rw [callQ_bind,callP_bind,callX_bind]
   split
   ·rfl
   ·rw [callF_bind,callT_bind]
  ·split
   ·split
    ·exact appT_bind _ _ _ _ _ _ _ _
    ·rfl
   ·rfl
  ·rfl
 ·rfl
theorem effDK_bind {σ:Type} (F:Dl→Option ρ) (G:ρ→Option σ):(effDK E o st F).bind G = effDK E o st (fun δ=>(F δ).bind G):=by
 unfold effDK
 rw [treK_bind,effDK0_bind]
theorem undK_bind {σ:Type} (F:Dl→Option ρ) (G:ρ→Option σ):(undK E o st F).bind G = undK E o st (fun δ=>(F δ).bind G):=by
 unfold undK
 split
 ·rfl
 ·rw [effDK_bind]
  congr 1
  funext δ
  split <;> rfl
def guardV (ops:Array Oper) (o:Oper) (tm:List A):Option Bool :=
 match o.guard with
 | none=>some true
 | some (j,want)=>match (ops[j]?).bind (·.dst) with
  | some t=>match tm[t]? with
   | some (.d .bool _ b)=>some (b == want)
   | some .no=>some false
   | _=>none
  | none=>none
theorem guardK_eq {σ:Type} (Ka Kb:St→Option σ):guardK ops o st Ka Kb = match guardV ops o st.tm with | some true=>Ka st | some false=>Kb st | none=>none:=by
 cases hg:o.guard with
 | none=>simp only [guardK,guardV,hg]
 | some p =>
  obtain ⟨j,want⟩:=p
  cases ht:(ops[j]?).bind (·.dst) with
  | none=>simp only [guardK,guardV,hg,ht]
  | some t =>
   cases hA:st.tm[t]? with
   | none=>simp only [guardK,guardV,hg,ht,hA]
   | some A0 =>
    cases A0 with
    | d ty fr b =>
     cases ty with
     | bool =>
      simp only [guardK,guardV,hg,ht,hA]
      cases b
      ·have hst:({ tm:=st.tm.set t (.d .bool fr false),ob:=st.ob }:St) = st:=by rw [list_set_self hA]
       simp only [hst]
       cases want <;> rfl
      ·have hst:({ tm:=st.tm.set t (.d .bool fr true),ob:=st.ob }:St) = st:=by rw [list_set_self hA]
       simp only [hst]
       cases want <;> rfl
     | _=>simp only [guardK,guardV,hg,ht,hA]
    | _=>simp only [guardK,guardV,hg,ht,hA]
/-- A step in a drawn region, as it is: what it does, and what it looks at. -/
def stepDV (E:Env) (ops:Array Oper) (o:Oper) (st:St):Option (Dl × List Nat):=stepDK E ops o st fun δ rs _=>some (δ,rs)
theorem stepDK_eq (K:Dl→List Nat→St→Option ρ):stepDK E ops o st K = (stepDV E ops o st).bind fun p=>K p.1 p.2 st:=by
 unfold stepDV stepDK
 rw [guardK_eq,guardK_eq]
 split
 ·rw [undK_bind]; rfl
 ·rfl
 ·rfl
theorem undK_some {F:Dl→Option ρ} (h:undK E o st F = some r):undOf o st = false∧effDK E o st (fun δ=>if δ.fitB o.dst (sitesOf o st) = true then F δ else none) = some r:=by
 unfold undK at h
 split at h
 ·cases h
 ·rename_i hu; exact ⟨by simpa using hu,h⟩
theorem stepD_sound (he:EnvOk P E) (hs:Sim B okA w0 β st a w) {i:Nat} (ho:ops[i]? = some o) {δ:Dl} {rs:List Nat} (h:stepDV E ops o st = some (δ,rs)) {next:Act→World→Prop}
  (hn:∀ β' a' w',Sim B okA w0 β' (δ.app o.dst st) a' w'→next a' w'):wpOp P ops Q i next a w:=by
 unfold wpOp
 rw [ho]
 show if Region.wanted o (yielded ops a.tmps) = true then _ else _
 unfold stepDV stepDK at h
 rcases guard_sound hs h with ⟨hw,h⟩ | ⟨hw,h⟩
 ·rw [if_pos hw]
  exact .inl (effD_sound he hs (undK_some h).2 (fun δ' β' a' w' hs' e=>by
   split at e
   ·injection e with e; injection e with e _; subst e
    exact hn β' a' w' hs'
   ·cases e))
 ·rw [if_neg (by simp [hw])]
  injection h with h
  injection h with h _
  subst h
  exact hn _ _ _ (hs.set (A:=.no) rfl o.dst)
/-- Two states that are alike to an operation. -/
structure Alike (ops:Array Oper) (o:Oper) (st st':St):Prop where
 val:∀ x,x∈o.op.operands→st'.val x = st.val x
 grd:guardV ops o st'.tm = guardV ops o st.tm
 ob:∀ s∈sitesOf o st,st'.ob[s]? = st.ob[s]?
theorem obj_of {ob ob':List (Option Ob)} {s:Nat} (h:ob'[s]? = ob[s]?):St.obj ob' s = St.obj ob s:=by unfold St.obj; rw [h]
theorem site_mem (hi:insens o.op = false) {x:Operand} (hx:x∈o.op.operands) {s:Nat} (h:(st.val x).site = some s):s∈sitesOf o st:=by
 unfold sitesOf
 exact List.mem_append.2 (.inr (List.mem_filterMap.2 ⟨x,Array.mem_toList_iff.2 hx,by rw [hi]; exact h⟩))
theorem ksite_mem {x:Operand} (hx:x∈o.op.operands) {s:Nat} (h:(st.val x).ksite = some s):s∈sitesOf o st:=by
 unfold sitesOf
 refine List.mem_append.2 (.inr (List.mem_filterMap.2 ⟨x,Array.mem_toList_iff.2 hx,?_⟩))
 unfold Fil.A.rsite
 split
 ·exact h
 ·exact ksite_site h
theorem compK_insens {val:Operand→A} {ob ob':List (Option Ob)} (hi:insens o.op = true) (F:A→Option ρ):compK E o val ob' F = compK E o val ob F:=by
 cases ho:o.op with
 | fieldAddr s x f=>simp only [compK,ho]
 | nilCheck x=>simp only [compK,ho]
 | move x=>simp only [compK,ho]
 | assign x=>simp only [compK,ho]
 | _=>rw [ho] at hi; cases hi
theorem dst_mem {s:Nat} (h:o.dst = some s):s∈sitesOf o st:=by
 unfold sitesOf
 exact List.mem_append.2 (.inl (by rw [h]; simp))
theorem lenK_ob {ob ob':List (Option Ob)} {A:A} (F:Fil.A→Option ρ) (h:∀ s,A.site = some s→St.obj ob' s = St.obj ob s):lenK ob' A F = lenK ob A F:=by
 unfold lenK
 cases A with
 | own s=>simp only [h s rfl]
 | xr=>simp only [h 0 rfl]
 | d t fr x=>cases t <;> rfl
 | lin t x=>cases t <;> rfl
 | vw s p off t=>cases t <;> first | rfl | simp only [h s rfl]
 | _=>rfl
theorem compK_ob {val:Operand→A} {ob ob':List (Option Ob)} (hp:∀ x,x∈o.op.operands→∀ s off t,val x≠.pb s off t) (h:∀ x,x∈o.op.operands→∀ s,(val x).site = some s→St.obj ob' s = St.obj ob s) (F:A→Option ρ):compK E o val ob' F = compK E o val ob F:=by
 cases ho:o.op with
 | load t x =>
  have hx:=h x (by rw [ho]; simp [Op.operands])
  simp only [compK,ho]
  cases hT:E.T t with
  | none=>cases hA:val x <;> rfl
  | some i=>cases hA:val x <;> first | rfl | (simp only [hx _ (by rw [hA]; rfl)]) | (rename_i t' _; cases t' <;> rfl) | exact absurd hA (hp x (by rw [ho]; simp [Op.operands]) _ _ _)
 | extract x n =>
  have hx:=h x (by rw [ho]; simp [Op.operands])
  simp only [compK,ho]
  cases hA:val x <;> first | rfl | (simp only [hx _ (by rw [hA]; rfl)])
 | indexAddr t x ix =>
  have hx:=h x (by rw [ho]; simp [Op.operands])
  simp only [compK,ho]
  cases hT:E.T t with
  | none=>rfl
  | some i =>
   cases hA:val x with
   | own s=>have e:=hx s (by rw [hA]; rfl); cases hI:val ix with
    | d ti fi xi=>cases ti <;> simp only [e]
    | _=>rfl
   | xr=>have e:=hx 0 (by rw [hA]; rfl); cases hI:val ix with
    | d ti fi xi=>cases ti <;> simp only [e]
    | _=>rfl
   | d t0 f0 x0=>cases t0 <;> (cases hI:val ix with
    | d ti fi xi=>cases ti <;> rfl
    | _=>rfl)
   | lin t0 x0=>cases t0 <;> (cases hI:val ix with
    | d ti fi xi=>cases ti <;> rfl
    | _=>rfl)
   | vw s0 p0 o0 t0=>have e:=hx s0 (by rw [hA]; rfl); cases t0 <;> (cases hI:val ix with
    | d ti fi xi=>cases ti <;> first | rfl | simp only [e]
    | _=>rfl)
   | ptr s0 o0 t0=>cases hI:val ix with
    | d ti fi xi=>cases ti <;> rfl
    | _=>rfl
   | _=>rfl
 | call c =>
  simp only [compK,ho]
  split
  ·split
   ·rename_i x t ha hat
    have hx:=h x (by
     rw [ho]
     simp only [Op.operands,Call.operands]
     refine Array.mem_append.2 (.inr (Array.mem_toList_iff.1 (by rw [ha]; simp)))) 
    unfold builtinLenK
    split
    ·split
     ·split
      ·rfl
      ·exact lenK_ob F hx
     ·split
      ·rfl
      ·rfl
     ·rfl
    ·rfl
   ·rfl
  ·rfl
  ·rfl
  ·rfl
  ·rfl
 | _=>simp only [compK,ho]
/-- Nothing that an operation of a drawn region looks at is a value that came in. -/
theorem undOf_clean {x:Operand} (h:undOf o st = false) (hx:x∈o.op.operands):(∀ t,st.val x≠.pv t)∧∀ s off t,st.val x≠.pb s off t:=by
 have key:(st.val x).isUnd = true→Operand.isTmp' x = false:=by
  intro hu
  unfold undOf at h
  have:=List.any_eq_false.1 h _ (Array.mem_toList_iff.2 hx)
  simpa [hu] using this
 refine ⟨fun t e=>?_,fun s off t e=>?_⟩
 all_goals
  have hk:=key (by rw [e]; rfl)
  cases x with
  | tmp t=>cases hk
  | const v=>cases v <;> simp only [St.val,constA] at e <;> first | (cases e; done) | (split at e <;> cases e) | skip
  | _=>cases e
theorem dtL_ob {ob ob':List (Option Ob)} {t:Nat} {A:A} (h:∀ s,A.site = some s→St.obj ob' s = St.obj ob s):dtL E ob' t A = dtL E ob t A:=by
 unfold dtL
 cases A <;> try rfl
 ·rename_i s; simp only; rw [h s rfl]
 ·rename_i s p off t; simp only; rw [h s rfl]
theorem dtsL_ob {ob ob':List (Option Ob)}:∀ {ts:List Nat} {xs:List A},(∀ A∈xs,∀ s,A.site = some s→St.obj ob' s = St.obj ob s)→dtsL E ob' ts xs = dtsL E ob ts xs
 | [],[],_=>rfl
 | [],_ :: _,_=>rfl
 | _ :: _,[],_=>rfl
 | t :: ts,A :: xs,h=>by
  simp only [dtsL]
  rw [dtL_ob (h A (by simp)),dtsL_ob (fun B hB=>h B (by simp [hB]))]
theorem arg_mem {c:Call} (ho:o.op = .call c) {x:Operand} (hx:x∈c.args.toList):x∈o.op.operands:=by
 rw [ho]
 simp only [Op.operands,Call.operands]
 exact Array.mem_append.2 (.inr (Array.mem_toList_iff.1 hx))
theorem effDK0_congr {st':St} (hu:undOf o st = false) (h:Alike ops o st st') (F:Dl→Option ρ):effDK0 E o st' F = effDK0 E o st F:=by
 have hcomp:∀ F:A→Option ρ,compK E o st'.val st'.ob F = compK E o st.val st.ob F:=fun F=>by
  rw [compK_congr h.val]
  cases hi:insens o.op with
  | true=>exact compK_insens hi F
  | false=>exact compK_ob (fun x hx=>(undOf_clean hu hx).2) (fun x hx s hs=>obj_of (h.ob s (site_mem hi hx hs))) F
 have hdst:∀ s,o.dst = some s→st'.ob[s]? = st.ob[s]?:=fun s hs=>h.ob s (dst_mem hs)
 cases ho:o.op with
 | alloc t =>
  simp only [effDK0,ho]
  cases hT:E.T t <;> cases hd:o.dst <;> try rfl
  rename_i i s
  simp only
  rw [hdst s hd]
 | buildSlice t n ps =>
  have hp:(ps.toList.map fun p=>(p.1,st'.val p.2)) = ps.toList.map fun p=>(p.1,st.val p.2):=by
   refine List.map_congr_left (fun p hp=>?_)
   rw [h.val p.2 (by
    rw [ho]
    simp only [Op.operands]
    exact List.mem_toArray.2 (List.mem_map.2 ⟨p,hp,rfl⟩))]
  simp only [effDK0,ho]
  cases hT:E.T t <;> cases hd:o.dst <;> try rfl
  rename_i i s
  simp only
  rw [hdst s hd,hp]
 | store t p x =>
  have h1:=h.val x (by rw [ho]; simp [Op.operands])
  have h2:=h.val p (by rw [ho]; simp [Op.operands])
  have h3:∀ s,(st.val p).site = some s→St.obj st'.ob s = St.obj st.ob s:=fun s hs=>obj_of (h.ob s (site_mem (by rw [ho]; rfl) (by rw [ho]; simp [Op.operands]) hs))
  simp only [effDK0,ho,h1,h2]
  cases hdt:dtOf E t (st.val x) <;> try rfl
  cases hd:o.dst <;> try rfl
  simp only
  cases hA:st.val p <;> try rfl
  ·rename_i s off t'; simp only; rw [h3 s (by rw [hA]; rfl)]
  ·rename_i s i off t'; simp only; rw [h3 s (by rw [hA]; rfl)]
 | call c =>
  have hargs:c.args.toList.map st'.val = c.args.toList.map st.val:=List.map_congr_left (fun x hx=>h.val x (arg_mem ho hx))
  simp only [effDK0,ho]
  split
  ·split
   ·rename_i x y t t' ha hat
    have h1:=h.val x (arg_mem ho (by rw [ha]; simp))
    have h2:=h.val y (arg_mem ho (by rw [ha]; simp))
    have h3:∀ s,(st.val x).site = some s→St.obj st'.ob s = St.obj st.ob s:=fun s hs=>obj_of (h.ob s (site_mem (by rw [ho]; rfl) (arg_mem ho (by rw [ha]; simp)) hs))
    unfold appendDK
    rw [h1,h2]
    cases hA:st.val x <;> try rfl
    rename_i s
    simp only
    rw [h3 s (by rw [hA]; rfl)]
   ·rfl
  ·rename_i f hc
   rw [hargs,hcomp]
   unfold lendK
   rw [dtsL_ob (ob':=st'.ob) (ob:=st.ob) (fun A hA s hs=>by
    obtain ⟨x,hx,rfl⟩:=List.mem_map.1 hA
    exact obj_of (h.ob s (site_mem (by rw [ho]; rfl) (arg_mem ho hx) hs)))]
   cases hds:dtsL E st.ob c.argTypes.toList (c.args.toList.map st.val) <;> try rfl
   rename_i ds
   simp only
   cases hcr:E.C f ds <;> try rfl
   rename_i cr
   simp only
   split
   ·rfl
   ·split
    ·rename_i hd _
     rw [hdst _ hd]
    ·rfl
  ·exact hcomp _
 | _=>simpa only [effDK0,ho] using hcomp _
theorem srcA_ob {st':St} {s tid:Nat} {t:Ty} {A:A} (h:∀ s',A.site = some s'→St.obj st'.ob s' = St.obj st.ob s'):srcA E st' s tid t A = srcA E st s tid t A:=by
 cases A with
 | vw s' p off t'=>cases p with
  | nil=>simp only [srcA]; rw [h s' rfl]
  | cons q p=>simp only [srcA]; rw [h s' rfl]
 | _=>rfl
theorem tailA_ob {st':St} {s tid e:Nat} {te:Ty} {sh:Sh} {A:A} (h:∀ s',A.site = some s'→St.obj st'.ob s' = St.obj st.ob s'):tailA E st' s tid e te sh A = tailA E st s tid e te sh A:=by
 cases A with
 | vw s' p off t'=>cases p with
  | nil=>cases off with
   | zero=>simp only [tailA]; rw [h s' rfl]
   | succ n=>rfl
  | cons q p=>rfl
 | _=>rfl
theorem oneA_ob {st':St} {s:Nat} {t:Ty} {A:A} (h:∀ s',A.site = some s'→St.obj st'.ob s' = St.obj st.ob s'):oneA E st' s t A = oneA E st s t A:=by
 cases A with
 | vw s' p off t'=>cases p with
  | nil=>cases off with
   | zero=>simp only [oneA]; rw [h s' rfl]
   | succ n=>rfl
  | cons q p=>rfl
 | _=>rfl
theorem partsT_ob {st':St} {s:Nat} {i:TI}:∀ (l:List (Nat × A)) (x:i.ty.T) (sh:Sh) (zs:List Nat),(∀ p∈l,∀ s',p.2.site = some s'→St.obj st'.ob s' = St.obj st.ob s')→partsT E st' s i l x sh zs = partsT E st s i l x sh zs
 | [],_,_,_,_=>rfl
 | (f,A) :: l,x,sh,zs,h=>by
  unfold partsT
  have h1:=fun ft=>oneA_ob (E:=E) (s:=s) (t:=ft) (h (f,A) (by simp))
  simp only [h1]
  have h2:=fun x sh zs=>partsT_ob (s:=s) (i:=i) l x sh zs (fun p hp=>h p (by simp [hp]))
  simp only [h2]
theorem treK_congr {st':St} (hu:undOf o st = false) (h:Alike ops o st st') (F:Dl→Option ρ) (K0:Option ρ):treK E o st' F K0 = treK E o st F K0:=by
 have hdst:∀ s,o.dst = some s→st'.ob[s]? = st.ob[s]?:=fun s hs=>h.ob s (dst_mem hs)
 cases ho:o.op with
 | alloc t =>
  simp only [treK,ho]
  cases hd:o.dst with
  | none=>rfl
  | some s=>simp only; rw [hdst s hd]
 | store t p x =>
  have h1:=h.val x (by rw [ho]; simp [Op.operands])
  have h2:=h.val p (by rw [ho]; simp [Op.operands])
  simp only [treK,ho,h1,h2]
  cases hA:st.val p <;> try rfl
  rename_i s q off t'
  simp only [storeT]
  have h3:St.obj st'.ob s = St.obj st.ob s:=obj_of (h.ob s (site_mem (by rw [ho]; rfl) (x:=p) (by rw [ho]; simp [Op.operands]) (by rw [hA]; rfl)))
  have h4:∀ i:TI,srcA E st' s t i.ty (st.val x) = srcA E st s t i.ty (st.val x):=fun i=>srcA_ob (fun s' hs'=>obj_of (h.ob s' (site_mem (by rw [ho]; rfl) (x:=x) (by rw [ho]; simp [Op.operands]) hs')))
  rw [h3]
  cases hd:o.dst <;> cases hob:St.obj st.ob s <;> try rfl
  rename_i ob1
  cases ob1 <;> try rfl
  cases hT:E.T t <;> try rfl
  simp only [h4]
 | move x =>
  have h1:=h.val x (by rw [ho]; simp [Op.operands])
  simp only [treK,ho,h1]
  cases hA:st.val x <;> try rfl
  exact absurd hA ((undOf_clean hu (x:=x) (by rw [ho]; simp [Op.operands])).1 _)
 | box t x =>
  have h1:=h.val x (by rw [ho]; simp [Op.operands])
  have hcl:=(undOf_clean hu (x:=x) (by rw [ho]; simp [Op.operands])).1
  simp only [treK,ho,h1]
  cases hd:o.dst with
  | none=>cases hA:st.val x <;> simp only [boxT,hd]
  | some s =>
   have h2:=hdst s hd
   have h5:∀ ty,oneA E st' s ty (st.val x) = oneA E st s ty (st.val x):=fun ty=>oneA_ob (fun s' hs'=>obj_of (h.ob s' (site_mem (by rw [ho]; rfl) (x:=x) (by rw [ho]; simp [Op.operands]) hs')))
   cases hA:st.val x with
   | vw s0 p0 o0 t0 =>
    rw [hA] at h5
    cases p0 <;> cases o0 <;> simp only [boxT,hd,h2,h5]
   | pv t0=>exact absurd hA (hcl _)
   | _=>simp only [boxT,hd,h2]
 | build t ps =>
  have hp:(ps.toList.map fun p=>(p.1,st'.val p.2)) = ps.toList.map fun p=>(p.1,st.val p.2):=by
   refine List.map_congr_left (fun p hp=>?_)
   rw [h.val p.2 (by
    rw [ho]
    simp only [Op.operands]
    exact List.mem_toArray.2 (List.mem_map.2 ⟨p,hp,rfl⟩))]
  simp only [treK,ho]
  cases hd:o.dst <;> try rfl
  rename_i s
  simp only
  split
  ·rw [hp]
   unfold buildT
   have hq:∀ i:TI,partsT E st' s i (ps.toList.map fun p=>(p.1,st.val p.2)) i.ty.zero (E.tx.shT t) [] = partsT E st s i (ps.toList.map fun p=>(p.1,st.val p.2)) i.ty.zero (E.tx.shT t) []:=fun i=>partsT_ob _ _ _ _ (fun p hp s' hs'=>by
    obtain ⟨q,hq,rfl⟩:=List.mem_map.1 hp
    exact obj_of (h.ob s' (site_mem (by rw [ho]; rfl) (x:=q.2) (by
     rw [ho]
     simp only [Op.operands]
     exact List.mem_toArray.2 (List.mem_map.2 ⟨q,hq,rfl⟩)) hs')))
   cases hT:E.T t <;> try rfl
   simp only [hd,hdst s hd,hq]
  ·rfl
 | buildSlice t n ps =>
  have hp:(ps.toList.map fun p=>(p.1,st'.val p.2)) = ps.toList.map fun p=>(p.1,st.val p.2):=by
   refine List.map_congr_left (fun p hp=>?_)
   rw [h.val p.2 (by
    rw [ho]
    simp only [Op.operands]
    exact List.mem_toArray.2 (List.mem_map.2 ⟨p,hp,rfl⟩))]
  simp only [treK,ho]
  cases hd:o.dst <;> try rfl
  rename_i s
  simp only
  split
  ·rw [hp]
   unfold litT
   have hq:∀ (te:Ty) (A:A),A∈(ps.toList.map fun p=>(p.1,st.val p.2)).map (·.2)→oneA E st' s te A = oneA E st s te A:=fun te A hA=>oneA_ob (fun s' hs'=>by
    obtain ⟨p,hp,rfl⟩:=List.mem_map.1 hA
    obtain ⟨q,hq,rfl⟩:=List.mem_map.1 hp
    exact obj_of (h.ob s' (site_mem (by rw [ho]; rfl) (x:=q.2) (by
     rw [ho]
     simp only [Op.operands]
     exact List.mem_toArray.2 (List.mem_map.2 ⟨q,hq,rfl⟩)) hs')))
   cases hT:E.T t <;> try rfl
   rename_i i
   simp only [hd,hdst s hd]
   cases hty:i.ty <;> try rfl
   rename_i e te
   cases hob:st.ob[s]? <;> try rfl
   rename_i ob1
   cases ob1 <;> try rfl
   simp only
   cases hTe:E.T e with
   | none=>rfl
   | some ie =>
    simp only
    by_cases hcc:ie.ty = te∧n * te.sz≤16777216∧n≤9223372036854775807∧s≠0
    ·rw [if_pos hcc,if_pos hcc]
     generalize hl:(ps.toList.map fun p=>(p.1,st.val p.2)) = l at hq
     split
     ·rfl
     ·rw [hq te _ (by simp)]
     ·rfl
    ·rw [if_neg hcc,if_neg hcc]
  ·rfl
 | makeSlice t x y =>
  have h1:=h.val x (by rw [ho]; simp [Op.operands])
  have h2:=h.val y (by rw [ho]; simp [Op.operands])
  simp only [treK,ho,h1,h2]
  cases hd:o.dst <;> try rfl
  rename_i s
  simp only
  split
  ·unfold makeT
   cases hT:E.T t <;> try rfl
   rename_i i
   rw [hd]
   cases hA:st.val x with
   | d tx fx xx=>cases hB:st.val y with
    | d ty fy yy =>
     cases tx <;> try rfl
     rename_i kx
     cases kx <;> try rfl
     cases ty <;> try rfl
     rename_i ky
     cases ky <;> try rfl
     simp only [hdst s hd]
    | _=>cases tx <;> first | rfl | (rename_i kx; cases kx <;> rfl)
   | _=>cases hB:st.val y <;> rfl
  ·rfl
 | call c =>
  have hargs:c.args.toList.map st'.val = c.args.toList.map st.val:=List.map_congr_left (fun x hx=>h.val x (arg_mem ho hx))
  simp only [treK,ho]
  split
  ·rename_i f hc
   rw [hargs]
   have hat:∀ A∈c.args.toList.map st.val,∀ s,A.site = some s→St.obj st'.ob s = St.obj st.ob s:=fun A hA s hs=>by
    obtain ⟨x,hx,rfl⟩:=List.mem_map.1 hA
    exact obj_of (h.ob s (site_mem (by rw [ho]; rfl) (arg_mem ho hx) hs))
   have hT:callT E o st' f c.argTypes.toList (c.args.toList.map st.val) F K0 = callT E o st f c.argTypes.toList (c.args.toList.map st.val) F K0:=by
    unfold callT
    rw [dtsL_ob (ob':=st'.ob) (ob:=st.ob) hat]
    cases hds:dtsL E st.ob c.argTypes.toList (c.args.toList.map st.val) <;> try rfl
    simp only
    cases hd:o.dst <;> try rfl
    rename_i s
    simp only
    rw [hdst s hd]
   rw [hT]
   have hF:∀ Kz,callF E o st' f c.argTypes.toList (c.args.toList.map st.val) F Kz = callF E o st f c.argTypes.toList (c.args.toList.map st.val) F Kz:=fun Kz=>by
    unfold callF
    rw [dtsL_ob (ob':=st'.ob) (ob:=st.ob) hat]
    cases hd:o.dst <;> try rfl
    rename_i s
    simp only
    rw [hdst s hd]
   rw [hF]
   generalize (if E.tx.skip o.dst = true then K0 else callF E o st f c.argTypes.toList (c.args.toList.map st.val) F (callT E o st f c.argTypes.toList (c.args.toList.map st.val) F K0)) = Kt
   generalize c.args.toList.map st.val = as_ at hat
   have hX:callX E o st' f as_ F Kt = callX E o st f as_ F Kt:=by
    unfold callX
    split
    ·rename_i s p off t' fr k
     rw [hat (.vw s p off t') (by simp) s rfl]
    ·rfl
   rw [hX]
   generalize callX E o st f as_ F Kt = Kx
   have hP:callP E o st' f c.argTypes.toList as_ F Kx = callP E o st f c.argTypes.toList as_ F Kx:=by
    unfold callP
    split
    ·rename_i s0 t0 as0 hts
     rw [hat (.pt s0 [] 0 t0) (by simp) s0 rfl]
    ·rfl
   rw [hP]
   unfold callQ
   split
   ·rename_i s0 t0 as0 hts
    rw [hat (.pt s0 [] 0 t0) (by simp) s0 rfl]
   ·rfl
  ·split
   ·rename_i x y t t' ha hat
    have h1:=h.val x (arg_mem ho (by rw [ha]; simp))
    have h2:=h.val y (arg_mem ho (by rw [ha]; simp))
    rw [h1,h2]
    cases hA:st.val x <;> try rfl
    rename_i s p off tv
    cases p <;> try rfl
    simp only [appT]
    have h3:St.obj st'.ob s = St.obj st.ob s:=obj_of (h.ob s (site_mem (by rw [ho]; rfl) (x:=x) (arg_mem ho (by rw [ha]; simp)) (by rw [hA]; rfl)))
    have h4:∀ (e:Nat) (te:Ty) (sh:Sh),tailA E st' s t' e te sh (st.val y) = tailA E st s t' e te sh (st.val y):=fun e te sh=>tailA_ob (fun s' hs'=>obj_of (h.ob s' (site_mem (by rw [ho]; rfl) (x:=y) (arg_mem ho (by rw [ha]; simp)) hs')))
    rw [h3]
    cases hT:E.T t with
    | none=>rfl
    | some i =>
     cases hob:St.obj st.ob s with
     | none=>rfl
     | some ob1 =>
      cases hd:o.dst with
      | none=>cases ob1 <;> rfl
      | some d0=>cases ob1 with
       | tr bx sh0 t0 x0=>simp only [h4,hdst d0 hd]
       | _=>rfl
   ·rfl
  ·rfl
 | _=>simp only [treK,ho]
theorem effDK_congr {st':St} (hu:undOf o st = false) (h:Alike ops o st st') (F:Dl→Option ρ):effDK E o st' F = effDK E o st F:=by
 unfold effDK
 rw [treK_congr hu h,effDK0_congr hu h]
theorem undOf_congr {st':St} (h:Alike ops o st st'):undOf o st' = undOf o st:=by
 unfold undOf
 have:∀ l:List Operand,(∀ x∈l,x∈o.op.operands)→(l.any fun x=>Operand.isTmp' x && (st'.val x).isUnd) = l.any fun x=>Operand.isTmp' x && (st.val x).isUnd:=by
  intro l
  induction l with
  | nil=>intro _; rfl
  | cons x l ih =>
   intro hl
   rw [List.any_cons,List.any_cons,ih (fun y hy=>hl y (by simp [hy])),h.val x (hl x (by simp))]
 exact this _ (fun x hx=>Array.mem_toList_iff.1 hx)
theorem sitesOf_congr {st':St} (h:Alike ops o st st'):sitesOf o st' = sitesOf o st:=by
 unfold sitesOf
 congr 1
 have:∀ l:List Operand,(∀ x∈l,x∈o.op.operands)→(l.filterMap fun x=>(st'.val x).rsite (insens o.op)) = l.filterMap fun x=>(st.val x).rsite (insens o.op):=by
  intro l
  induction l with
  | nil=>intro _; rfl
  | cons x l ih =>
   intro hl
   rw [List.filterMap_cons,List.filterMap_cons,ih (fun y hy=>hl y (by simp [hy])),h.val x (hl x (by simp))]
 exact this _ (fun x hx=>Array.mem_toList_iff.1 hx)
theorem stepDV_congr_v {st':St} (hg:guardV ops o st'.tm = guardV ops o st.tm) (h':guardV ops o st'.tm = some true→(∀ x,x∈o.op.operands→st'.val x = st.val x)∧∀ s∈sitesOf o st,st'.ob[s]? = st.ob[s]?):stepDV E ops o st' = stepDV E ops o st:=by
 unfold stepDV stepDK
 rw [guardK_eq,guardK_eq]
 rw [hg] at h' ⊢
 split
 ·rename_i hon
  have h:Alike ops o st st':=⟨(h' hon).1,hg,(h' hon).2⟩
  unfold undK
  rw [undOf_congr h,sitesOf_congr h]
  split
  ·rfl
  ·rename_i hu
   exact effDK_congr (by simpa using hu) h _
 ·rfl
 ·rfl
theorem stepDV_on' {δ:Dl} {rs:List Nat} (hg:guardV ops o st.tm = some true) (h:stepDV E ops o st = some (δ,rs)):rs = sitesOf o st∧undOf o st = false:=by
 unfold stepDV stepDK at h
 rw [guardK_eq,hg] at h
 obtain ⟨hu,h⟩:=undK_some h
 have h2:=effDK_bind (E:=E) (o:=o) (st:=st) (fun δ'=>some δ') (fun δ'=>if δ'.fitB o.dst (sitesOf o st) = true then some (δ',sitesOf o st) else none)
 have h3:effDK E o st (fun δ'=>if δ'.fitB o.dst (sitesOf o st) = true then some (δ',sitesOf o st) else none) = (effDK E o st some).bind (fun δ'=>if δ'.fitB o.dst (sitesOf o st) = true then some (δ',sitesOf o st) else none):=by rw [h2]; rfl
 rw [h3] at h
 obtain ⟨δ',_,h4⟩:=Option.bind_eq_some_iff.1 h
 split at h4
 ·simp only [Option.some.injEq,Prod.mk.injEq] at h4
  exact ⟨h4.2.symm,hu⟩
 ·cases h4
/-- What a step gives, is where it was looked for. -/
theorem stepDV_fits {δ:Dl} {rs:List Nat} (h:stepDV E ops o st = some (δ,rs)):δ.fitB o.dst rs = true∧(guardV ops o st.tm = some true→rs = sitesOf o st∧undOf o st = false):=by
 refine ⟨?_,fun hg=>?_⟩
 rotate_left
 ·rcases stepDV_on' hg h with h1
  exact h1
 unfold stepDV stepDK at h
 rw [guardK_eq] at h
 split at h
 ·obtain ⟨hu,h⟩:=undK_some h
  have key:∀ {F:Dl→Option (Dl × List Nat)},effDK E o st F = some (δ,rs)→(∀ δ',F δ' = some (δ,rs)→δ'.fitB o.dst (sitesOf o st) = true∧δ' = δ∧sitesOf o st = rs)→δ.fitB o.dst rs = true∧sitesOf o st = rs:=by
   intro F hF hk
   have h2:=effDK_bind (E:=E) (o:=o) (st:=st) (fun δ'=>some δ') F
   have h3:effDK E o st F = (effDK E o st some).bind F:=by rw [h2]; rfl
   rw [h3] at hF
   obtain ⟨δ',_,h4⟩:=Option.bind_eq_some_iff.1 hF
   obtain ⟨h5,rfl,h6⟩:=hk δ' h4
   exact ⟨h6 ▸ h5,h6⟩
  have:=key h (fun δ' e=>by
   split at e
   ·rename_i hf
    simp only [Option.some.injEq,Prod.mk.injEq] at e
    exact ⟨hf,e.1,e.2⟩
   ·cases e)
  exact this.1
 ·simp only [Option.some.injEq,Prod.mk.injEq] at h
  obtain ⟨rfl,rfl⟩:=h
  rfl
 ·cases h
theorem kill_get (tm:List A) (s t:Nat):(tm.map fun a=>if a.ksite = some s then .und else a)[t]? = (tm[t]?).map fun a=>if a.ksite = some s then .und else a:=List.getElem?_map
theorem updOb_get:∀ (ups:List (Nat × Option Ob)) (ob:List (Option Ob)) (s:Nat),s∉ups.map (·.1)→(updOb ob ups)[s]? = ob[s]?
 | [],_,_,_=>rfl
 | (q,o) :: r,ob,s,h=>by
  simp only [List.map_cons,List.mem_cons,not_or] at h
  rw [updOb,updOb_get r _ s h.2]
  simp [Ne.symm h.1]
theorem deepS_deep {A:A} {s:Nat} (h:A.deepS s = true):A.deep s = true:=by
 cases A with
 | pt s' p off t=>exact h
 | vw s' p off t=>simp only [A.deepS,Bool.and_eq_true] at h; exact h.1
 | _=>cases h
theorem hit_site {A:A} {ks kl:List Nat} (h:(ks.any (fun s=>A.deepS s) || kl.any (fun s=>A.deep s)) = true):∃ s,s∈ks ++ kl∧A.ksite = some s:=by
 rw [Bool.or_eq_true] at h
 rcases h with h | h
 ·obtain ⟨s,h1,h2⟩:=List.any_eq_true.1 h
  exact ⟨s,by simp [h1],deep_ksite (deepS_deep h2)⟩
 ·obtain ⟨s,h1,h2⟩:=List.any_eq_true.1 h
  exact ⟨s,by simp [h1],deep_ksite h2⟩
/-- A step keeps what another looks at. -/
theorem app_tm {δ:Dl} {dst:Option Tmp} {rs:List Nat} (hf:δ.fitB dst rs = true) {t:Nat} (ht:dst≠some t):(δ.app dst st).tm[t]? = st.tm[t]?∨∃ A s,st.tm[t]? = some A∧A.ksite = some s∧s∈δ.sites∧(δ.app dst st).tm[t]? = some .und:=by
 cases δ with
 | v a =>
  refine .inl ?_
  cases dst with
  | none=>rfl
  | some d =>
   have:d≠t:=fun e=>ht (e ▸ rfl)
   simp [Dl.app,St.set,this]
 | m s a o =>
  simp only [Dl.fitB,Bool.and_eq_true,beq_iff_eq] at hf
  have:s≠t:=fun e=>ht (e ▸ hf.1.1)
  exact .inl (by simp [Dl.app,this])
 | s s o=>exact .inl rfl
 | k s o d =>
  simp only [Dl.fitB,Bool.and_eq_true,beq_iff_eq] at hf
  have hd:d≠t:=fun e=>ht (e ▸ hf.1)
  have h1:((Dl.k s o d).app dst st).tm[t]? = (st.tm[t]?).map fun a=>if a.ksite = some s then .und else a:=by
   show ((st.kill s).set d (.own s))[t]? = _
   rw [List.getElem?_set,if_neg hd]
   exact kill_get _ _ _
  cases hA:st.tm[t]? with
  | none=>rw [h1,hA]; exact .inl rfl
  | some A =>
   by_cases hs:A.ksite = some s
   ·refine .inr ⟨A,s,rfl,hs,by simp [Dl.sites],?_⟩
    rw [h1,hA]; simp [hs]
   ·rw [h1,hA]; exact .inl (by simp [hs])
 | u ups kl a ks =>
  have h1:((Dl.u ups kl a ks).app dst st).tm[t]? = (st.tm[t]?).map fun a=>if ks.any (fun s=>a.deepS s) || kl.any (fun s=>a.deep s) then .und else a:=by
   have h2:(killD kl st.tm ks)[t]? = (st.tm[t]?).map fun a=>if ks.any (fun s=>a.deepS s) || kl.any (fun s=>a.deep s) then .und else a:=List.getElem?_map
   cases dst with
   | none=>exact h2
   | some d =>
    have hd:d≠t:=fun e=>ht (e ▸ rfl)
    show ((killD kl st.tm ks).set d a)[t]? = _
    rw [List.getElem?_set,if_neg hd]
    exact h2
  cases hA:st.tm[t]? with
  | none=>rw [h1,hA]; exact .inl rfl
  | some A =>
   by_cases hs:(ks.any (fun s=>A.deepS s) || kl.any (fun s=>A.deep s)) = true
   ·obtain ⟨s,hs1,hs2⟩:=hit_site hs
    refine .inr ⟨A,s,rfl,hs2,(by simp only [Dl.sites,List.mem_append] at hs1 ⊢; exact hs1.elim (fun h=>.inl h) (fun h=>.inr (.inr h))),?_⟩
    rw [h1,hA]; simp only [Option.map_some]; rw [if_pos hs]
   ·rw [h1,hA]; exact .inl (by simp only [Option.map_some]; rw [if_neg hs])
theorem app_ob {δ:Dl} {dst:Option Tmp} {s:Nat} (hs:s∉δ.sites):(δ.app dst st).ob[s]? = st.ob[s]?:=by
 cases δ with
 | v a=>cases dst <;> rfl
 | m q a o =>
  have:q≠s:=fun e=>hs (by simp [Dl.sites,e])
  simp [Dl.app,this]
 | s q o =>
  have:q≠s:=fun e=>hs (by simp [Dl.sites,e])
  simp [Dl.app,this]
 | k q o d =>
  have:q≠s:=fun e=>hs (by simp [Dl.sites,e])
  simp [Dl.app,this]
 | u ups kl a ks =>
  have h1:s∉ups.map (·.1):=fun h=>hs (by simp only [Dl.sites,List.mem_append]; exact .inr (.inl h))
  have h2:((Dl.u ups kl a ks).app dst st).ob = updOb st.ob ups:=by cases dst <;> rfl
  rw [h2]
  exact updOb_get ups st.ob s h1
theorem val_of {x:Operand} {st':St} (h:∀ t,x = .tmp t→st'.tm[t]? = st.tm[t]?):st'.val x = st.val x:=by
 cases x with
 | tmp t=>simp only [St.val,List.getD_eq_getElem?_getD,h t rfl]
 | _=>rfl
theorem mem_looks {t:Nat} (hx:Operand.tmp t∈o.op.operands):t∈o.looksAt ops:=by
 unfold Oper.looksAt
 exact List.mem_append.2 (.inl (List.mem_filterMap.2 ⟨.tmp t,Array.mem_toList_iff.2 hx,rfl⟩))
theorem grd_looks {j:Nat} {want:Bool} {t:Nat} (hg:o.guard = some (j,want)) (ht:(ops[j]?).bind (·.dst) = some t):t∈o.looksAt ops:=by
 unfold Oper.looksAt
 refine List.mem_append.2 (.inr ?_)
 rw [hg]; simp [ht]
theorem guardV_of {tm tm':List A} (h:∀ t,t∈o.looksAt ops→tm'[t]? = tm[t]?∨∃ A s,tm[t]? = some A∧A.ksite = some s∧tm'[t]? = some .und):guardV ops o tm' = guardV ops o tm:=by
 unfold guardV
 split
 ·rfl
 ·rename_i j want hg
  split
  ·rename_i t ht
   rcases h t (grd_looks hg ht) with h1 | ⟨A,s,h1,h2,h3⟩
   ·rw [h1]
   ·rw [h1,h3]
    have h2:=ksite_site h2
    cases A <;> first | rfl | (cases h2; done)
  ·rfl
theorem undOf_none {x:Operand} (h:undOf o st = false) (hx:x∈o.op.operands) {t:Nat} (ht:x = .tmp t):st.tm[t]?≠some .und:=by
 subst ht
 intro e
 unfold undOf at h
 have:=List.any_eq_false.1 h _ (Array.mem_toList_iff.2 hx)
 simp [Operand.isTmp',St.val,List.getD_eq_getElem?_getD,e,A.isUnd] at this
theorem set_comm {d1 d2:Option Tmp} (h:∀ d,d1 = some d→d2≠some d) (A1 A2:A):(st.set d1 A1).set d2 A2 = (st.set d2 A2).set d1 A1:=by
 cases d1 with
 | none=>cases d2 <;> rfl
 | some x=>cases d2 with
  | none=>rfl
  | some y =>
   have:x≠y:=fun e=>h x rfl (e ▸ rfl)
   simp only [St.set]
   rw [List.set_comm _ _ this]
theorem app_comm {δ1 δ2:Dl} {d1 d2:Option Tmp} {r1 r2:List Nat} (h1:δ1.fitB d1 r1 = true) (h2:δ2.fitB d2 r2 = true) (hd:∀ d,d1 = some d→d2≠some d) (hs1:∀ s,s∈δ1.sites→s∉r2) (hs2:∀ s,s∈δ2.sites→s∉r1) (hu:((δ1.isU && !δ2.sites.isEmpty) || (δ2.isU && !δ1.sites.isEmpty)) = false) (st:St):δ2.app d2 (δ1.app d1 st) = δ1.app d1 (δ2.app d2 st):=by
 have kset:∀ (tm:List A) (s d:Nat) (A:A),A.ksite≠some s→((tm.set d A).map fun a=>if a.ksite = some s then Fil.A.und else a) = (tm.map fun a=>if a.ksite = some s then Fil.A.und else a).set d A:=by
  intro tm s d A hA
  rw [List.map_set,if_neg hA]
 have kk:∀ (tm:List A) (s s':Nat),((tm.map fun a=>if a.ksite = some s then Fil.A.und else a).map fun a=>if a.ksite = some s' then Fil.A.und else a) = (tm.map fun a=>if a.ksite = some s' then Fil.A.und else a).map fun a=>if a.ksite = some s then Fil.A.und else a:=by
  intro tm s s'
  rw [List.map_map,List.map_map]
  apply List.map_congr_left
  intro A _
  simp only [Function.comp_apply]
  by_cases h1:A.ksite = some s <;> by_cases h2:A.ksite = some s' <;> simp_all [Fil.A.ksite,Fil.A.site]
 have mem:∀ {δ:Dl} {d:Option Tmp} {r:List Nat},δ.fitB d r = true→∀ s,s∈δ.sites→s∈r:=by
  intro δ d r h s hs
  cases δ with
  | v a=>simp [Dl.sites] at hs
  | m q a o=>simp only [Dl.sites,List.mem_singleton] at hs; subst hs; simp only [Dl.fitB,Bool.and_eq_true] at h; simpa using h.2
  | s q o=>simp only [Dl.sites,List.mem_singleton] at hs; subst hs; simpa [Dl.fitB] using h
  | k q o d'=>simp only [Dl.sites,List.mem_singleton] at hs; subst hs; simp only [Dl.fitB,Bool.and_eq_true] at h; simpa using h.2
  | u ups kl a ks=>simpa using List.all_eq_true.1 h s hs
 have hss:∀ s,s∈δ1.sites→s∉δ2.sites:=fun s e e'=>hs1 s e (mem h2 s e')
 have vsite:∀ {a:A} {r:List Nat} {d:Option Tmp},(Dl.v a).fitB d r = true→∀ s,a.ksite = some s→s∈r:=by
  intro a r d h s hs
  simp only [Dl.fitB,hs] at h
  simpa using h
 have kv:∀ {kl ks:List Nat} {a:A} {r:List Nat} {d:Option Tmp},(Dl.v a).fitB d r = true→(∀ s∈ks ++ kl,s∉r)→¬ (ks.any (fun s=>a.deepS s) || kl.any (fun s=>a.deep s)) = true:=by
  intro kl ks a r d h hk hd
  obtain ⟨s,hs1,hs2⟩:=hit_site hd
  exact hk s hs1 (vsite h s hs2)
 have uset:∀ {kl ks:List Nat} {tm:List A} {d:Nat} {a:A},¬ (ks.any (fun s=>a.deepS s) || kl.any (fun s=>a.deep s)) = true→killD kl (tm.set d a) ks = (killD kl tm ks).set d a:=by
  intro kl ks tm d a h
  unfold killD
  rw [List.map_set,if_neg h]
 cases δ1 with
 | v a1 =>
  cases δ2 with
  | v a2=>exact set_comm hd a1 a2
  | m s a2 o2 =>
   simp only [Dl.fitB,Bool.and_eq_true,beq_iff_eq] at h2
   cases d1 with
   | none=>rfl
   | some x =>
    have:x≠s:=fun e=>hd x rfl (by rw [h2.1.1,e])
    simp only [Dl.app,St.set]
    rw [List.set_comm _ _ this]
  | s s o2=>cases d1 <;> rfl
  | k s o2 d =>
   have hsite:a1.ksite≠some s:=fun e=>hs2 s (by simp [Dl.sites]) (vsite h1 s e)
   simp only [Dl.fitB,Bool.and_eq_true,beq_iff_eq] at h2
   cases d1 with
   | none=>rfl
   | some x =>
    have:x≠d:=fun e=>hd x rfl (by rw [h2.1,e])
    simp only [Dl.app,St.set,St.kill]
    rw [kset _ _ _ _ hsite,List.set_comm _ _ this]
  | u ups kl a2 ks =>
   have hk:=kv h1 (kl:=kl) (ks:=ks) (fun s hs=>hs2 s (by simp only [Dl.sites,List.mem_append] at hs ⊢; exact hs.elim (fun h=>.inl h) (fun h=>.inr (.inr h))))
   cases d1 with
   | none=>rfl
   | some x =>
    cases d2 with
    | none =>
     simp only [Dl.app,St.set]
     rw [uset hk]
    | some y =>
     have:x≠y:=fun e=>hd x rfl (by rw [e])
     simp only [Dl.app,St.set]
     rw [uset hk,List.set_comm _ _ this]
 | u ups kl a1 ks =>
  cases δ2 with
  | v a2 =>
   have hk:=kv h2 (kl:=kl) (ks:=ks) (fun s hs=>hs1 s (by simp only [Dl.sites,List.mem_append] at hs ⊢; exact hs.elim (fun h=>.inl h) (fun h=>.inr (.inr h))))
   cases d2 with
   | none=>rfl
   | some y =>
    cases d1 with
    | none =>
     simp only [Dl.app,St.set]
     rw [uset hk]
    | some x =>
     have:x≠y:=fun e=>hd x rfl (by rw [e])
     simp only [Dl.app,St.set]
     rw [uset hk,List.set_comm _ _ this]
  | u ups' kl' a2 ks' =>
   simp only [Dl.isU,Bool.true_and,Bool.or_eq_false_iff,Bool.not_eq_false',List.isEmpty_iff,Dl.sites,List.append_eq_nil_iff,List.map_eq_nil_iff] at hu
   obtain ⟨⟨rfl,rfl,rfl⟩,⟨rfl,rfl,rfl⟩⟩:=hu
   have e0:∀ tm:List A,killD [] tm = tm:=fun tm=>by unfold killD; simp
   simp only [Dl.app,updOb,e0]
   cases d1 with
   | none=>cases d2 <;> simp [St.set,e0]
   | some x=>cases d2 with
    | none=>simp [St.set,e0]
    | some y =>
     have:x≠y:=fun e=>hd x rfl (by rw [e])
     simp only [St.set,e0]
     rw [List.set_comm _ _ this]
  | _=>simp [Dl.isU,Dl.sites] at hu
 | m s1 a1 o1 =>
  simp only [Dl.fitB,Bool.and_eq_true,beq_iff_eq] at h1
  cases δ2 with
  | u ups kl a2=>simp [Dl.isU,Dl.sites] at hu
  | v a2 =>
   cases d2 with
   | none=>rfl
   | some x =>
    have:s1≠x:=fun e=>hd s1 h1.1.1 (by rw [e])
    simp only [Dl.app,St.set]
    rw [List.set_comm _ _ this]
  | m s a2 o2 =>
   have hne:s1≠s:=fun e=>hss s1 (by simp [Dl.sites]) (by simp [Dl.sites,e])
   simp only [Dl.app]
   rw [List.set_comm _ _ hne,List.set_comm (some o1) _ hne]
  | s s o2 =>
   have hne:s1≠s:=fun e=>hss s1 (by simp [Dl.sites]) (by simp [Dl.sites,e])
   simp only [Dl.app]
   rw [List.set_comm _ _ hne]
  | k s o2 d =>
   have hne:s1≠s:=fun e=>hss s1 (by simp [Dl.sites]) (by simp [Dl.sites,e])
   have hsite:a1.ksite≠some s:=fun e=>hne (by have e:=ksite_site e; have:=h1.1.2; rw [this] at e; injection e)
   simp only [Dl.fitB,Bool.and_eq_true,beq_iff_eq] at h2
   have:s1≠d:=fun e=>hd s1 h1.1.1 (by rw [h2.1,e])
   simp only [Dl.app,St.kill]
   rw [kset _ _ _ _ hsite,List.set_comm _ _ this,List.set_comm (some o1) _ hne]
 | s s1 o1 =>
  cases δ2 with
  | u ups kl a2=>simp [Dl.isU,Dl.sites] at hu
  | v a2=>cases d2 <;> rfl
  | m s a2 o2 =>
   have hne:s1≠s:=fun e=>hss s1 (by simp [Dl.sites]) (by simp [Dl.sites,e])
   simp only [Dl.app]
   rw [List.set_comm _ _ hne]
  | s s o2 =>
   have hne:s1≠s:=fun e=>hss s1 (by simp [Dl.sites]) (by simp [Dl.sites,e])
   simp only [Dl.app]
   rw [List.set_comm _ _ hne]
  | k s o2 d =>
   have hne:s1≠s:=fun e=>hss s1 (by simp [Dl.sites]) (by simp [Dl.sites,e])
   simp only [Dl.app,St.kill]
   rw [List.set_comm _ _ hne]
 | k s1 o1 e1 =>
  simp only [Dl.fitB,Bool.and_eq_true,beq_iff_eq] at h1
  cases δ2 with
  | u ups kl a2=>simp [Dl.isU,Dl.sites] at hu
  | v a2 =>
   have hsite:a2.ksite≠some s1:=fun e=>hs1 s1 (by simp [Dl.sites]) (vsite h2 s1 e)
   cases d2 with
   | none=>rfl
   | some x =>
    have:e1≠x:=fun e=>hd e1 h1.1 (by rw [e])
    simp only [Dl.app,St.set,St.kill]
    rw [kset _ _ _ _ hsite,List.set_comm _ _ this]
  | m s a2 o2 =>
   have hne:s1≠s:=fun e=>hss s1 (by simp [Dl.sites]) (by simp [Dl.sites,e])
   simp only [Dl.fitB,Bool.and_eq_true,beq_iff_eq] at h2
   have hsite:a2.ksite≠some s1:=fun e=>hne (by have e:=ksite_site e; have:=h2.1.2; rw [this] at e; injection e with e; exact e.symm)
   have:e1≠s:=fun e=>hd e1 h1.1 (by rw [h2.1.1,e])
   simp only [Dl.app,St.kill]
   rw [kset _ _ _ _ hsite,List.set_comm _ _ this,List.set_comm (some o1) _ hne]
  | s s o2 =>
   have hne:s1≠s:=fun e=>hss s1 (by simp [Dl.sites]) (by simp [Dl.sites,e])
   simp only [Dl.app,St.kill]
   rw [List.set_comm _ _ hne]
  | k s o2 d =>
   have hne:s1≠s:=fun e=>hss s1 (by simp [Dl.sites]) (by simp [Dl.sites,e])
   simp only [Dl.fitB,Bool.and_eq_true,beq_iff_eq] at h2
   have:e1≠d:=fun e=>hd e1 h1.1 (by rw [h2.1,e])
   simp only [Dl.app,St.kill]
   rw [kset _ _ _ _ (by simp [Fil.A.ksite,Fil.A.site,hne]),kset _ _ _ _ (by simp [Fil.A.ksite,Fil.A.site,Ne.symm hne]),kk,List.set_comm _ _ this,List.set_comm (some o1) _ hne]
/-- Two steps that look at other things change places. -/
theorem step_swap {x y:Oper} {δy δx:Dl} {ry rx:List Nat} (hap:y.apart ops x = true) (h1:stepDV E ops y st = some (δy,ry)) (h2:stepDV E ops x (δy.app y.dst st) = some (δx,rx)) (hsy:∀ s,s∈δy.sites→s∉rx) (hsx:∀ s,s∈δx.sites→s∉ry) (hu:((δx.isU && !δy.sites.isEmpty) || (δy.isU && !δx.sites.isEmpty)) = false) :
  stepDV E ops x st = some (δx,rx)∧stepDV E ops y (δx.app x.dst st) = some (δy,ry)∧δy.app y.dst (δx.app x.dst st) = δx.app x.dst (δy.app y.dst st):=by
 obtain ⟨a1,a2,a3⟩:=Oper.apart_spec hap
 obtain ⟨fy,gy⟩:=stepDV_fits h1
 obtain ⟨fx,gx⟩:=stepDV_fits h2
 have e1:stepDV E ops x st = some (δx,rx):=by
  rw [← h2]
  refine (stepDV_congr_v ?_ ?_).symm
  ·exact guardV_of (fun t ht=>by
    rcases app_tm (st:=st) fy (t:=t) (fun e=>a1 t e ht) with h | ⟨A,s,k1,k2,k3,k4⟩
    ·exact .inl h
    ·exact .inr ⟨A,s,k1,k2,k4⟩)
  ·intro hgd
   obtain ⟨hrx,hux⟩:=gx hgd
   ·have hval:∀ z,z∈x.op.operands→(δy.app y.dst st).val z = st.val z:=fun z hz=>val_of (fun t ht=>by
     rcases app_tm (st:=st) fy (t:=t) (fun e=>a1 t e (by subst ht; exact mem_looks hz)) with h | ⟨A,s,k1,k2,k3,k4⟩
     ·exact h
     ·exact absurd k4 (undOf_none hux hz ht))
    refine ⟨hval,?_⟩
    intro s hs
    have hs':s∈rx:=by
     rw [hrx]
     unfold sitesOf at hs ⊢
     rcases List.mem_append.1 hs with hs | hs
     ·exact List.mem_append.2 (.inl hs)
     ·obtain ⟨z,hz,hz2⟩:=List.mem_filterMap.1 hs
      exact List.mem_append.2 (.inr (List.mem_filterMap.2 ⟨z,hz,by rw [hval z (Array.mem_toList_iff.1 hz)]; exact hz2⟩))
    exact app_ob (fun e=>hsy s e hs')
 refine ⟨e1,?_,?_⟩
 ·rw [← h1]
  refine stepDV_congr_v ?_ ?_
  ·exact guardV_of (fun t ht=>by
    rcases app_tm (st:=st) fx (t:=t) (fun e=>a3 t e ht) with h | ⟨A,s,k1,k2,k3,k4⟩
    ·exact .inl h
    ·exact .inr ⟨A,s,k1,k2,k4⟩)
  ·intro hgd
   obtain ⟨hry,huy⟩:=gy (by rw [← hgd]; exact (guardV_of (fun t ht=>by
     rcases app_tm (st:=st) fx (t:=t) (fun e=>a3 t e ht) with h | ⟨A,s,k1,k2,k3,k4⟩
     ·exact .inl h
     ·exact .inr ⟨A,s,k1,k2,k4⟩)).symm)
   ·have hval:∀ z,z∈y.op.operands→(δx.app x.dst st).val z = st.val z:=fun z hz=>val_of (fun t ht=>by
     rcases app_tm (st:=st) fx (t:=t) (fun e=>a3 t e (by subst ht; exact mem_looks hz)) with h | ⟨A,s,k1,k2,k3,k4⟩
     ·exact h
     ·refine absurd ?_ (hsx s k3)
      rw [hry]
      refine ksite_mem hz ?_
      subst ht
      simp only [St.val,List.getD_eq_getElem?_getD,k1]
      exact k2)
    refine ⟨hval,?_⟩
    intro s hs
    exact app_ob (fun e=>hsx s e (by rw [hry]; exact hs))
 ·exact app_comm fx fy (fun d e e'=>a2 d e' e) hsx hsy hu st
theorem opsD_perm:∀ (is:List Nat) {h h':List Hx} {st:St},(∀ z,z∈h↔z∈h')→opsD E ops is h st K1 = opsD E ops is h' st K1
 | [],_,_,_,_=>rfl
 | i :: is,h,h',st,hp=>by
  simp only [opsD]
  split
  ·congr 1
   funext δ rs st'
   have e1:(h.all fun x=>x.ok ops ⟨i,rs,δ.sites,δ.isU⟩) = h'.all fun x=>x.ok ops ⟨i,rs,δ.sites,δ.isU⟩:=by
    rw [Bool.eq_iff_iff,List.all_eq_true,List.all_eq_true]
    exact ⟨fun hh x hx=>hh x ((hp x).2 hx),fun hh x hx=>hh x ((hp x).1 hx)⟩
   rw [e1]
   split
   ·exact opsD_perm is (fun z=>by simp only [List.mem_cons,hp z])
   ·rfl
  ·rfl
theorem opsD_cons {i:Nat} {is:List Nat} {h:List Hx} {oi:Oper} (ho:ops[i]? = some oi):opsD E ops (i :: is) h st K1 = (stepDV E ops oi st).bind fun p=>if (h.all fun x=>x.ok ops ⟨i,p.2,p.1.sites,p.1.isU⟩) = true then opsD E ops is (⟨i,p.2,p.1.sites,p.1.isU⟩ :: h) (p.1.app oi.dst st) K1 else none:=by
 simp only [opsD,ho]
 rw [stepDK_eq]
theorem free_spec {a b:Hx} (h:a.free b = true):(∀ s,s∈a.w→s∉b.r)∧(∀ s,s∈b.w→s∉a.r)∧((b.u && !a.w.isEmpty) || (a.u && !b.w.isEmpty)) = false:=by
 unfold Hx.free at h
 rw [Bool.and_eq_true,Bool.and_eq_true] at h
 obtain ⟨⟨h1,h2⟩,h3⟩:=h
 refine ⟨fun s hs=>?_,fun s hs=>?_,?_⟩
 ·simpa using List.all_eq_true.1 h1 s hs
 ·simpa using List.all_eq_true.1 h2 s hs
 ·rw [Bool.or_comm]
  rw [Bool.not_eq_true'] at h3
  exact h3
theorem ok_symm {a b:Hx} (hne:a.i≠b.i):a.ok ops b = b.ok ops a:=by
 unfold Hx.ok Hx.free
 rw [Bool.and_comm (a.w.all _),Bool.or_comm (a.u && _)]
 congr 1
 by_cases h:a.i < b.i
 ·rw [if_pos h,if_neg (by omega)]
 ·rw [if_neg h,if_pos (by omega)]
/-- Operation x, apart from all ahead of it, comes first. -/
theorem opsD_front {x:Nat} {ox:Oper} (hx:ops[x]? = some ox):∀ (p q:List Nat) (h:List Hx) (st:St),(∀ y∈p,y < x∧reachB ops ops.size x y = false∧∃ oy,ops[y]? = some oy∧oy.apart ops ox = true)→opsD E ops (p ++ x :: q) h st K1 = some r →
  ∃ δ rs,stepDV E ops ox st = some (δ,rs)∧(h.all fun z=>z.ok ops ⟨x,rs,δ.sites,δ.isU⟩) = true∧opsD E ops (p ++ q) (⟨x,rs,δ.sites,δ.isU⟩ :: h) (δ.app ox.dst st) K1 = some r
 | [],q,h,st,_,hr=>by
  rw [List.nil_append,opsD_cons hx] at hr
  obtain ⟨⟨δ,rs⟩,h1,h2⟩:=Option.bind_eq_some_iff.1 hr
  split at h2
  ·rename_i hall; exact ⟨δ,rs,h1,hall,h2⟩
  ·cases h2
 | y :: p,q,h,st,hp,hr=>by
  obtain ⟨hyx,hnr,oy,hoy,hap⟩:=hp y (by simp)
  rw [List.cons_append,opsD_cons hoy] at hr
  obtain ⟨⟨δy,ry⟩,h1,h2⟩:=Option.bind_eq_some_iff.1 hr
  split at h2
  ·rename_i hally
   simp only at hally h2
   obtain ⟨δx,rx,g1,g2,g3⟩:=opsD_front hx p q _ _ (fun z hz=>hp z (by simp [hz])) h2
   rw [List.all_cons,Bool.and_eq_true] at g2
   obtain ⟨g2,g4⟩:=g2
   have hfree:(⟨y,ry,δy.sites,δy.isU⟩:Hx).free ⟨x,rx,δx.sites,δx.isU⟩ = true:=by
    unfold Hx.ok at g2
    rw [Bool.or_eq_true] at g2
    rcases g2 with g2 | g2
    ·exact g2
    ·rw [if_pos hyx,hnr] at g2; cases g2
   obtain ⟨f1,f2,f3⟩:=free_spec hfree
   obtain ⟨k1,k2,k3⟩:=step_swap hap h1 g1 f1 f2 f3
   refine ⟨δx,rx,k1,g4,?_⟩
   rw [List.cons_append,opsD_cons hoy,k2]
   show (if _ then _ else _) = _
   have hok:((⟨x,rx,δx.sites,δx.isU⟩:Hx) :: h).all (fun z=>z.ok ops ⟨y,ry,δy.sites,δy.isU⟩) = true:=by
    rw [List.all_cons,Bool.and_eq_true]
    exact ⟨by rw [ok_symm (by show x≠y; omega)]; exact g2,hally⟩
   rw [if_pos hok]
   show opsD E ops (p ++ q) _ (δy.app oy.dst (δx.app ox.dst st)) K1 = some r
   rw [k3,← g3]
   exact opsD_perm _ (fun z=>by simp only [List.mem_cons]; constructor <;> (rintro (h | h | h) <;> simp [h]))
  ·cases h2
def dokB (ops:Array Oper):Bool :=
 (List.range ops.size).all fun i=>match ops[i]? with
  | some oi=>(oi.after.toList.all fun e=>!Region.binds .any e || decide (e.on < i)) && (List.range i).all fun j=>match ops[j]? with
   | some oj=>reachB ops ops.size i j || oj.apart ops oi
   | none=>true
  | none=>true
/-- What is still to come, in the text's order. -/
def rem (ops:Array Oper) (listed:Array Bool):List Nat:=(List.range ops.size).filter fun i=>!listed.getD i true
theorem maskOf_spec {i:Nat} {R:List Nat} {j:Nat}:∀ (es:List Edge) (m:Nat),(maskOf i R es m).testBit j = true→m.testBit j = true∨∃ e∈es,Region.binds .any e = true∧e.on < i∧(e.on = j∨(R.getD e.on 0).testBit j = true)
 | [],m,h=>.inl h
 | e :: es,m,h=>by
  simp only [maskOf] at h
  rcases maskOf_spec es _ h with h1 | ⟨e',h1,h2⟩
  ·split at h1
   ·rename_i hc
    rw [Bool.and_eq_true,decide_eq_true_eq] at hc
    rw [Nat.testBit_or,Nat.testBit_or,Nat.testBit_two_pow] at h1
    simp only [Bool.or_eq_true,decide_eq_true_eq] at h1
    rcases h1 with h1 | h1 | h1
    ·exact .inl h1
    ·exact .inr ⟨e,by simp,hc.1,hc.2,.inl h1⟩
    ·exact .inr ⟨e,by simp,hc.1,hc.2,.inr h1⟩
   ·exact .inl h1
  ·exact .inr ⟨e',by simp [h1],h2⟩
/-- What the bits say. -/
def MInv (L:List Oper) (R:List Nat):Prop:=∀ i j,(R.getD i 0).testBit j = true→∃ o,L[i]? = some o∧∃ e∈o.after.toList,Region.binds .any e = true∧e.on < i∧(e.on = j∨(R.getD e.on 0).testBit j = true)
theorem masks_inv:∀ (os pre:List Oper) (R:List Nat),R.length = pre.length→MInv (pre ++ os) R→MInv (pre ++ os) (masksGo pre.length os R)
 | [],pre,R,_,h=>h
 | o :: os,pre,R,hl,h=>by
  simp only [masksGo]
  have:=masks_inv os (pre ++ [o]) (R ++ [maskOf pre.length R o.after.toList 0]) (by simp [hl]) (by
   intro i j hb
   have hget:∀ k,k < R.length→(R ++ [maskOf pre.length R o.after.toList 0]).getD k 0 = R.getD k 0:=fun k hk=>by
    simp only [List.getD_eq_getElem?_getD,List.getElem?_append_left hk]
   by_cases hi:i < R.length
   ·rw [hget i hi] at hb
    obtain ⟨o',h1,e,h2,h3,h4,h5⟩:=h i j hb
    refine ⟨o',by simpa using h1,e,h2,h3,h4,?_⟩
    rw [hget _ (by omega)]
    exact h5
   ·by_cases hi2:i = R.length
    ·subst hi2
     have:(R ++ [maskOf pre.length R o.after.toList 0]).getD R.length 0 = maskOf pre.length R o.after.toList 0:=by simp [List.getD_eq_getElem?_getD]
     rw [this] at hb
     rcases maskOf_spec _ _ hb with h0 | ⟨e,h2,h3,h4,h5⟩
     ·simp at h0
     ·refine ⟨o,by simp [hl],e,h2,h3,by omega,?_⟩
      rw [hget _ (by omega)]
      exact h5
    ·have:(R ++ [maskOf pre.length R o.after.toList 0]).getD i 0 = 0:=by
      rw [List.getD_eq_getElem?_getD,List.getElem?_eq_none (by simp; omega)]; rfl
     rw [this] at hb
     simp at hb)
  simpa using this
theorem reach_spec {n i j:Nat} (h:reachB ops n i j = true):∃ o,ops[i]? = some o∧∃ e∈o.after.toList,Region.binds .any e = true∧e.on < i∧(e.on = j∨reachB ops n e.on j = true):=by
 obtain ⟨o,h1,e,h2,h3,h4,h5⟩:=masks_inv ops.toList [] [] rfl (by intro i j h; simp at h) i j h
 exact ⟨o,by simpa using h1,e,h2,h3,h4,h5⟩
theorem reach_listed {listed:Array Bool} (hc:∀ i o,ops[i]? = some o→listed.getD i false = true→∀ e∈o.after.toList,Region.binds .any e = true→listed.getD e.on false = true):∀ (n i j:Nat),reachB ops n i j = true→(∀ o,ops[i]? = some o→∀ e∈o.after.toList,Region.binds .any e = true→listed.getD e.on false = true)→listed.getD j false = true:=by
 intro n i
 induction i using Nat.strongRecOn with
 | _ i ih =>
  intro j h hi
  obtain ⟨o,ho,e,he,hb,hlt,h2⟩:=reach_spec h
  have hl:=hi o ho e he hb
  rcases h2 with h2 | h2
  ·rw [← h2]; exact hl
  ·exact ih e.on hlt j h2 (fun o' ho'=>hc _ o' ho' hl)
theorem getD_setB (xs:Array Bool) (d i:Nat) (u:Bool):(xs.setIfInBounds d true).getD i u = if d = i∧d < xs.size then true else xs.getD i u:=by
 simp only [Array.getD_eq_getD_getElem?,Array.getElem?_setIfInBounds]
 by_cases h:d = i
 ·subst h
  by_cases h2:d < xs.size
  ·simp [h2]
  ·simp [h2]
 ·simp [h]
theorem rem_split {listed:Array Bool} (hs:listed.size = ops.size) {i:Nat} (hi:i∈rem ops listed):∃ p q,rem ops listed = p ++ i :: q∧rem ops (listed.setIfInBounds i true) = p ++ q∧(∀ y∈p,y < i∧listed.getD y true = false):=by
 obtain ⟨hlt,hl⟩:=List.mem_filter.1 hi
 have hlt:i < ops.size:=by simpa using hlt
 have hsplit:List.range ops.size = List.range i ++ i :: (List.range' (i + 1) (ops.size - (i + 1))):=by
  rw [List.range_eq_range',List.range_eq_range']
  have e1:i :: List.range' (i + 1) (ops.size - (i + 1)) = List.range' i (ops.size - i):=by
   rw [show ops.size - i = (ops.size - (i + 1)) + 1 by omega,List.range'_succ]
  rw [e1]
  have:=List.range'_append (s:=0) (m:=i) (n:=ops.size - i) (step:=1)
  simp only [Nat.one_mul,Nat.zero_add] at this
  rw [this]
  congr 1; omega
 refine ⟨(List.range i).filter (fun j=>!listed.getD j true),(List.range' (i + 1) (ops.size - (i + 1))).filter (fun j=>!listed.getD j true),?_,?_,?_⟩
 ·unfold rem
  rw [hsplit,List.filter_append,List.filter_cons,if_pos hl]
 ·unfold rem
  rw [hsplit,List.filter_append,List.filter_cons]
  have hi':(!(listed.setIfInBounds i true).getD i true) = false:=by rw [getD_setB]; simp [hs,hlt]
  rw [if_neg (by rw [hi']; simp)]
  have hne:∀ j,j≠i→(!(listed.setIfInBounds i true).getD j true) = !listed.getD j true:=by
   intro j hj; rw [getD_setB,if_neg (fun h=>hj h.1.symm)]
  congr 1
  ·apply List.filter_congr
   intro j hj
   exact hne j (by have:=List.mem_range.1 hj; omega)
  ·apply List.filter_congr
   intro j hj
   exact hne j (by have:=List.mem_range'.1 hj; omega)
 ·intro y hy
  obtain ⟨h1,h2⟩:=List.mem_filter.1 hy
  exact ⟨by simpa using h1,by simpa using h2⟩
theorem min_head:∀ {l:List Nat},l≠[]→l.Pairwise (· < ·)→∃ i∈l,∀ j∈l,i≤j
 | [],h,_=>absurd rfl h
 | x :: xs,_,hp=>⟨x,by simp,fun j hj=>by
  rcases List.mem_cons.1 hj with rfl | hj
  ·omega
  ·exact Nat.le_of_lt ((List.pairwise_cons.1 hp).1 j hj)⟩
theorem drawn_sound (he:EnvOk P E) (hd:dokB ops = true):∀ (n:Nat) (listed:Array Bool) (hx:List Hx) {β:Nat→Value} {st:St} {a:Act} {w:World},listed.size = ops.size→(rem ops listed).length = n →
  (∀ i o,ops[i]? = some o→listed.getD i false = true→∀ e∈o.after.toList,Region.binds .any e = true→listed.getD e.on false = true) →
  Sim B okA w0 β st a w→opsD E ops (rem ops listed) hx st K1 = some r →
  (∀ β' st' a' w',Sim B okA w0 β' st' a' w'→K1 st' = some r→Q .normal a' w')→wpAny P .any ops Q n listed a w
 | n,listed,hx,β,st,a,w,hsz,hn,hc,hs,h,hq=>by
  have hdo:∀ i o,ops[i]? = some o→(∀ e∈o.after.toList,Region.binds .any e = true→e.on < i)∧∀ j oj,j < i→ops[j]? = some oj→reachB ops ops.size i j = true∨oj.apart ops o = true:=by
   intro i o ho
   have hlt:=(Array.getElem?_eq_some_iff.1 ho).1
   have:=(List.all_eq_true.1 hd) i (by simpa using hlt)
   simp only [ho,Bool.and_eq_true] at this
   refine ⟨fun e he hb=>?_,fun j oj hj hoj=>?_⟩
   ·have h1:=(List.all_eq_true.1 this.1) e he
    simpa [hb] using h1
   ·have h1:=(List.all_eq_true.1 this.2) j (by simpa using hj)
    simpa [hoj] using h1
  have hempty:Region.ready .any ops listed = []→rem ops listed = []:=by
   intro hr
   apply Classical.byContradiction
   intro hne
   obtain ⟨i,hi,hmin⟩:∃ i∈rem ops listed,∀ j∈rem ops listed,i≤j:=by
    exact min_head hne (List.Pairwise.filter _ List.pairwise_lt_range)
   obtain ⟨hlt,hl⟩:=List.mem_filter.1 hi
   have hlt:i < ops.size:=by simpa using hlt
   have:i∈Region.ready .any ops listed:=by
    refine List.mem_filter.2 ⟨by simpa using hlt,?_⟩
    rw [Bool.and_eq_true]
    refine ⟨hl,?_⟩
    rw [Array.getElem?_eq_getElem hlt]
    simp only [Option.map_some,Option.getD_some]
    rw [← Array.all_toList,List.all_eq_true]
    intro e he
    cases hb:Region.binds .any e
    ·rfl
    ·have hon:=(hdo i _ (Array.getElem?_eq_getElem hlt)).1 e he hb
     have hnr:e.on∉rem ops listed:=fun hm=>by have:=hmin _ hm; omega
     have:listed.getD e.on true = true:=by
      cases hq':listed.getD e.on true
      ·exact absurd (List.mem_filter.2 ⟨by simp; omega,by simp [hq']⟩) hnr
      ·rfl
     have hlt2:e.on < listed.size:=by omega
     simp only [Array.getD_eq_getD_getElem?,Array.getElem?_eq_getElem hlt2,Option.getD_some] at this ⊢
     simp [this]
   rw [hr] at this
   cases this
  cases n with
  | zero =>
   have h0:rem ops listed = []:=List.eq_nil_of_length_eq_zero hn
   refine ⟨?_,?_⟩
   ·apply List.eq_nil_iff_forall_not_mem.2
    intro i hi
    obtain ⟨h1,h2⟩:=List.mem_filter.1 hi
    rw [Bool.and_eq_true] at h2
    have:i∈rem ops listed:=List.mem_filter.2 ⟨h1,h2.1⟩
    rw [h0] at this
    cases this
   ·rw [h0] at h
    exact hq _ _ _ _ hs h
  | succ n =>
   refine ⟨fun hr=>?_,fun i hi=>?_⟩
   ·have:=hempty hr
    rw [this] at hn
    simp at hn
   ·obtain ⟨h1,h2⟩:=List.mem_filter.1 hi
    rw [Bool.and_eq_true] at h2
    have him:i∈rem ops listed:=List.mem_filter.2 ⟨h1,h2.1⟩
    have hlt:i < ops.size:=by simpa using h1
    have hoi:=Array.getElem?_eq_getElem hlt
    obtain ⟨p,q,e1,e2,e3⟩:=rem_split hsz him
    have hpre:∀ e∈(ops[i]).after.toList,Region.binds .any e = true→listed.getD e.on false = true:=by
     have h3:=h2.2
     rw [hoi] at h3
     simp only [Option.map_some,Option.getD_some] at h3
     rw [← Array.all_toList,List.all_eq_true] at h3
     intro e he hb
     have:=h3 e he
     simpa [hb] using this
    have hap:∀ y∈p,y < i∧reachB ops ops.size i y = false∧∃ oy,ops[y]? = some oy∧oy.apart ops ops[i] = true:=by
     intro j hj
     obtain ⟨hji,hjl⟩:=e3 j hj
     have hnr:reachB ops ops.size i j = false:=by
      cases hr:reachB ops ops.size i j with
      | false=>rfl
      | true =>
       have:=reach_listed hc ops.size i j hr (fun o ho=>by rw [hoi] at ho; injection ho with ho; subst ho; exact hpre)
       have hjs:j < listed.size:=by omega
       simp only [Array.getD_eq_getD_getElem?,Array.getElem?_eq_getElem hjs,Option.getD_some] at this hjl
       rw [this] at hjl
       cases hjl
     have hjo:=Array.getElem?_eq_getElem (show j < ops.size by omega)
     refine ⟨hji,hnr,_,hjo,?_⟩
     rcases (hdo i _ hoi).2 j _ hji hjo with hr | hr
     ·rw [hnr] at hr; cases hr
     ·exact hr
    rw [e1] at h
    obtain ⟨δ,rs,g1,g2,g3⟩:=opsD_front hoi p q hx st hap h
    refine stepD_sound he hs hoi g1 (fun β' a' w' hs'=>?_)
    refine drawn_sound he hd n (listed.setIfInBounds i true) (⟨i,rs,δ.sites,δ.isU⟩ :: hx) (by simpa using hsz) ?_ ?_ hs' ?_ hq
    ·rw [e2]
     rw [e1] at hn
     simp at hn ⊢
     omega
    ·intro k o ho hk e he' hb
     rw [getD_setB] at hk ⊢
     by_cases hki:i = k∧i < listed.size
     ·obtain ⟨rfl,_⟩:=hki
      rw [hoi] at ho
      injection ho with ho
      subst ho
      have:=hpre e he' hb
      split
      ·rfl
      ·exact this
     ·rw [if_neg hki] at hk
      have:=hc k o ho hk e he' hb
      split
      ·rfl
      ·exact this
    ·rw [e2]
     exact g3
theorem region_draw_sound (he:EnvOk P E) (hm:P.follows .mixedOrders = true) (hd:dokB ops = true) {id:Nat} (hs:Sim B okA w0 β st a w) (h:opsD E ops (List.range ops.size) [] st K1 = some r)
  (hq:∀ β' st' a' w',Sim B okA w0 β' st' a' w'→K1 st' = some r→Q .normal a' w'):(Code.region id ops true).wp P Q a w:=by
 refine wp_region_any hm ?_
 have hrem:rem ops (Array.replicate ops.size false) = List.range ops.size:=by
  unfold rem
  apply List.filter_eq_self.2
  intro i hi
  have:i < ops.size:=by simpa using hi
  simp [Array.getD_eq_getD_getElem?,this]
 refine drawn_sound he hd ops.size _ [] (by simp) (by rw [hrem]; simp) ?_ (hs.grow (w1:={ w with drawn:=w.drawn + 1 }) ⟨(Below.refl _ _).drew⟩) (by rw [hrem]; exact h) hq
 intro i o ho hl
 have:i < ops.size:=(Array.getElem?_eq_some_iff.1 ho).1
 simp [Array.getD_eq_getD_getElem?,this] at hl
end
end Go.Fil
