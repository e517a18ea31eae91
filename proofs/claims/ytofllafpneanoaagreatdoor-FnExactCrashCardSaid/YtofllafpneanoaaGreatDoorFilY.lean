/- Taking a part out of a tree. -/
import Derived.Test.YtofllafpneanoaaGreatDoorFilX
set_option linter.unusedSectionVars false
namespace Go.Fil
open Go.RowKit
set_option linter.unusedVariables false
set_option linter.unusedSimpArgs false
theorem put_sub {t:Ty}:∀ {t0:Ty} {x:t0.T} {off:Nat} {y:t.T},sub t0 x off t = some y→put t0 x off t y = some x:=by
 have base:∀ {t0:Ty} {x:t0.T} {off:Nat} {y:t.T},(if off = 0 then Ty.cast? t0 t x else none) = some y→(if off = 0 then Ty.cast? t t0 y else none) = some x:=by
  intro t0 x off y h
  split at h
  ·obtain ⟨rfl,rfl⟩:=cast?_some h
   rename_i e
   rw [if_pos e]
   simp [Ty.cast?]
  ·cases h
 intro t0
 induction t0 with
 | pair a b iha ihb =>
  intro x off y h
  simp only [sub] at h
  simp only [put]
  by_cases e:off = 0∧Ty.pair a b = t
  ·rw [if_pos e] at h ⊢
   have:=base (t0:=.pair a b) (x:=x) (off:=off) (y:=y) (by rw [if_pos e.1]; exact h)
   rwa [if_pos e.1] at this
  ·rw [if_neg e] at h ⊢
   by_cases hlt:off < a.sz
   ·rw [if_pos hlt] at h ⊢
    rw [iha h]; rfl
   ·rw [if_neg hlt] at h ⊢
    rw [ihb h]; rfl
 | int k=>intro x off y h; simpa [put] using base (t0:=.int k) (by simpa [sub] using h)
 | bool=>intro x off y h; simpa [put] using base (t0:=.bool) (by simpa [sub] using h)
 | str=>intro x off y h; simpa [put] using base (t0:=.str) (by simpa [sub] using h)
 | slice e t ih=>intro x off y h; simpa [put] using base (t0:=.slice e t) (by simpa [sub] using h)
 | unit=>intro x off y h; simpa [put] using base (t0:=.unit) (by simpa [sub] using h)
section
variable [Lin] {P:Program} {E:Env} {o:Oper} {a:Act} {w:World} {next:Act→World→Prop} {Q:Exit→Act→World→Prop} {B:Nat} {okA:Nat→Prop} {w0:World} {β:Nat→Value} {st:St} {ρ:Type} {r:ρ} {K1:St→Option ρ}
/-- A part of a tree (at its root) becomes a tree of its own, at the free site q. -/
theorem Sim.take (hs:Sim B okA w0 β st a w) {s:Nat} {bx:Bool} {sh:Sh} {t0:Ty} {x:t0.T} (hob:St.obj st.ob s = some (.tr bx sh t0 x)) {u:Value} {L:List Nat} (hb:β s = tupV u L)
  {off:Nat} {t:Ty} {y:t.T} {s1:Sh} (hg:sub t0 x off t = some y) (hsh:shG sh t0 off t = some s1) {q:Nat} (hq:st.ob[q]? = some none) (hq0:q≠0) :
  ∃ L1,(∀ k∈L1,k∈L)∧Sim B okA w0 (upd (upd β s (tupV u (L.filter fun k=>decide (k∉L1)))) q (tupV (t.val (((rootC w bx u).drop off).take t.sz)) L1)) ⟨killD [s] st.tm,(st.ob.set s (some (.tr bx (shP sh t0 off t .mv) t0 x))).set q (some (.tr false s1 t y))⟩ a w:=by
 obtain ⟨rc,Lr,hr⟩:=hs.root hob hb
 rw [hr.root]
 obtain ⟨La,L1,Lb,hL,hle,h4,h5⟩:=KS_focus hg hsh hr.ks
 have hlt:=lt_of_obj hob
 have hql:q < st.ob.length:=(List.getElem?_eq_some_iff.1 hq).1
 have hqn:St.obj st.ob q = none:=obj_none hq
 have hqs:q≠s:=by rintro rfl; rw [hob] at hqn; cases hqn
 have hsub:∀ k∈L1,k∈L:=fun k hk=>hr.sub k (by rw [hL]; simp [hk])
 have hndr:=hr.ndr
 rw [hL] at hndr
 have hdis:∀ k∈L1,k∉La∧k∉Lb:=fun k hk=>nodup_mid hndr hk
 have hn1:L1.Nodup:=by
  rw [List.nodup_append] at hndr
  have:=hndr.2.1
  rw [List.nodup_append] at this
  exact this.1
 have hfil:(La ++ (L1 ++ Lb)).filter (fun k=>decide (k∉L1)) = La ++ Lb:=by
  rw [List.filter_append,List.filter_append]
  have e1:La.filter (fun k=>decide (k∉L1)) = La:=List.filter_eq_self.2 (fun k hk=>decide_eq_true (fun h=>(hdis k h).1 hk))
  have e2:Lb.filter (fun k=>decide (k∉L1)) = Lb:=List.filter_eq_self.2 (fun k hk=>decide_eq_true (fun h=>(hdis k h).2 hk))
  have e3:L1.filter (fun k=>decide (k∉L1)) = []:=List.filter_eq_nil_iff.2 (fun k hk=>by simp [hk])
  rw [e1,e2,e3]; rfl
 have hO:∀ i,St.obj ((st.ob.set s (some (.tr bx (shP sh t0 off t .mv) t0 x))).set q (some (.tr false s1 t y))) i = if q = i then some (.tr false s1 t y) else if s = i then some (.tr bx (shP sh t0 off t .mv) t0 x) else St.obj st.ob i:=by
  intro i
  rw [obj_set]
  by_cases e1:q = i
  ·subst e1; simp [hql]
  ·simp only [e1,false_and,if_false]
   rw [obj_set]
   by_cases e2:s = i
   ·subst e2; simp [hlt]
   ·simp [e2]
 have hcs:rc.take off ++ (rc.drop off).take t.sz ++ rc.drop (off + t.sz) = rc:=by
  rw [List.append_assoc]
  have:(rc.drop off).take t.sz ++ rc.drop (off + t.sz) = rc.drop off:=by
   rw [← List.drop_drop]; exact List.take_append_drop _ _
  rw [this,List.take_append_drop]
 refine ⟨L1,hsub,?_⟩
 generalize hβ:upd (upd β s (tupV u (L.filter fun k=>decide (k∉L1)))) q (tupV (t.val ((rc.drop off).take t.sz)) L1) = β1
 have hβq:β1 q = tupV (t.val ((rc.drop off).take t.sz)) L1:=by rw [← hβ]; simp [upd]
 have hβs:β1 s = tupV u (L.filter fun k=>decide (k∉L1)):=by rw [← hβ]; simp [upd,Ne.symm hqs]
 refine hs.change (fun i=>i = s∨i = q) ⟨rfl,rfl,rfl,Nat.le_refl _,fun _ _ _=>rfl⟩ (by simp [killD,hs.len]) hs.defers ?_ ?_ ?_ ?_ ?_ ?_ ?_ ?_
 ·intro i hi
  have e1:q≠i:=fun e=>hi (.inr e.symm)
  have e2:s≠i:=fun e=>hi (.inl e.symm)
  exact ⟨by rw [hO,if_neg e1,if_neg e2],by rw [← hβ]; simp [upd,Ne.symm e1,Ne.symm e2]⟩
 ·rintro i o' (rfl | rfl) ho' e1 t1 xs1 rfl
  ·rw [hob] at ho'; cases ho'
  ·rw [hqn] at ho'; cases ho'
 ·rintro i o' (rfl | rfl) ho' e1 t1 xs1 rfl
  ·rw [hO,if_neg hqs,if_pos rfl] at ho'; cases ho'
  ·rw [hO,if_pos rfl] at ho'; cases ho'
 ·rintro i o' k (rfl | rfl) ho' hk
  ·rw [hβs] at hk
   exact .inr ⟨i,_,.inl rfl,hob,by rw [hb]; exact owns_tup.2 ((List.mem_filter.1 (owns_tup.1 hk)).1)⟩
  ·rw [hβq] at hk
   exact .inr ⟨s,_,.inl rfl,hob,by rw [hb]; exact owns_tup.2 (hsub k (owns_tup.1 hk))⟩
 ·have key:∀ k,owns (β1 s) k→owns (β1 q) k→False:=by
   intro k h6 h7
   rw [hβs] at h6
   rw [hβq] at h7
   have h8:=(List.mem_filter.1 (owns_tup.1 h6)).2
   exact of_decide_eq_true h8 (owns_tup.1 h7)
  rintro i i' o1 o2 k (rfl | rfl) (rfl | rfl) _ _ h6 h7
  ·rfl
  ·exact (key k h6 h7).elim
  ·exact (key k h7 h6).elim
  ·rfl
 ·intro hmv i o' hi ho'
  rw [hO] at ho'
  rcases hi with rfl | rfl
  ·rw [if_neg hqs,if_pos rfl] at ho'
   injection ho' with ho'
   subst ho'
   rw [hβs]
   have hm:=h5 (w':=w) (ok':=okD w B okA β1 ((st.ob.set i (some (.tr bx (shP sh t0 off t .mv) t0 x))).set q (some (.tr false s1 t y))) false) (y':=y) (s2:=.mv) (cy:=(rc.drop off).take t.sz) (L2:=[]) (x':=x) (fun k hk hlt'=>hmv false k hk hlt') (fun _ _=>rfl) (put_sub hg) ⟨rfl,KS_len h4,KS_one h4⟩
   rw [hcs] at hm
   refine RepO_tr ?_ (hr.nd.sublist List.filter_sublist) (fun k hk=>((hs.ob i _ hob).lt (by rw [hb]; exact owns_tup.2 ((List.mem_filter.1 hk).1))).1)
   unfold TrIs
   cases bx with
   | true =>
    simp only [if_true]
    obtain ⟨g,c,e,q1,q2,q3,q4⟩:=hr.box rfl
    have hgn:g∉L1:=fun h=>by
     have:=hr.nd
     rw [q4,List.nodup_cons,hL] at this
     exact this.1 (by simp [h])
    refine ⟨g,c,e,La ++ Lb,?_,q1,q2,by rw [← q3]; simpa using hm⟩
    rw [q4,List.filter_cons,if_pos (by simpa using hgn),hL,hfil]
   | false =>
    simp only [Bool.false_eq_true,if_false]
    obtain ⟨q1,q2⟩:=hr.val rfl
    refine ⟨rc,q1,?_⟩
    rw [q2,hL,hfil]
    simpa using hm
  ·rw [if_pos rfl] at ho'
   injection ho' with ho'
   subst ho'
   rw [hβq]
   refine RepO_tr ?_ hn1 (fun k hk=>((hs.ob s _ hob).lt (by rw [hb]; exact owns_tup.2 (hsub k hk))).1)
   unfold TrIs
   simp only [Bool.false_eq_true,if_false]
   exact ⟨_,rfl,KS_step (fun k hk hlt'=>hmv false k hk hlt') (fun _ _=>rfl) h4⟩
 ·intro hmv i A' hA'
  rcases killD_get hA' with rfl | ⟨hA',hd⟩
  ·exact .inl trivial
  ·have hrep:=hs.tm i A' hA'
   by_cases hsite:∃ s',A'.site = some s'∧(s' = s∨s' = q)
   ·obtain ⟨s',hs1,hs2⟩:=hsite
    rcases hs2 with rfl | rfl
    ·obtain ⟨off',t'',u',L'',g',rfl,rfl,hb',hu,hvv⟩:=kill_rep hob hrep hs1 (hd s' (by simp))
     rw [hb] at hb'
     obtain ⟨rfl,rfl⟩:=tup_inj hb'
     refine .inl ?_
     rw [hvv]
     exact ⟨u,_,true,_,t0,x,hβs,by rw [hO,if_neg hqs,if_pos rfl],.inl ⟨rfl,rfl,g',hu,rfl⟩⟩
    ·exfalso
     cases A' with
     | ptr s2 o2 t2=>simp only [A.site,Option.some.injEq] at hs1; subst hs1; obtain ⟨g,_,_,t0,f0,x0,h3⟩:=hrep; rw [hqn] at h3; cases h3
     | ep s2 i2 o2 t2=>simp only [A.site,Option.some.injEq] at hs1; subst hs1; obtain ⟨g,n,c,_,e2,te2,f2,x2,h3,_⟩:=hrep; rw [hqn] at h3; cases h3
     | own s2=>simp only [A.site,Option.some.injEq] at hs1; subst hs1; obtain ⟨_,e2,te2,f2,x2,h3⟩:=hrep; rw [hqn] at h3; cases h3
     | xr=>simp only [A.site,Option.some.injEq] at hs1; subst hs1; obtain ⟨_,e2,te2,x2,h3⟩:=hrep; rw [hqn] at h3; cases h3
     | xp i2 o2 t2=>simp only [A.site,Option.some.injEq] at hs1; subst hs1; obtain ⟨ad,n,c,_,e2,te2,x2,h3,_⟩:=hrep; rw [hqn] at h3; cases h3
     | pt s2 p2 o2 t2=>simp only [A.site,Option.some.injEq] at hs1; subst hs1; obtain ⟨u,L,bx,sh,t1,x1,_,h3,_⟩:=hrep; rw [hqn] at h3; cases h3
     | vw s2 p2 o2 t2=>simp only [A.site,Option.some.injEq] at hs1; subst hs1; obtain ⟨u,L,bx,sh,t1,x1,cs,_,h3,_⟩:=hrep; rw [hqn] at h3; cases h3
     | tp s2 t2=>simp only [A.site,Option.some.injEq] at hs1; subst hs1; obtain ⟨u,L,bx,sh,t1,x1,_,h3,_⟩:=hrep; rw [hqn] at h3; cases h3
     | _=>simp [A.site] at hs1
   ·exact .inr ⟨hrep,fun s' hs1 hs2=>hsite ⟨s',hs1,hs2⟩⟩
 ·intro h0 hz bx3 sh3 t3 x3 h1
  rw [hO,if_neg hq0] at h1
  rcases hz with hz | hz
  ·subst hz
   rw [if_pos rfl] at h1
   obtain ⟨rfl,_,_⟩:=tr_inj h1
   obtain ⟨L3,hL3⟩:=hs.pin h0 _ _ _ _ hob
   rw [hb] at hL3
   exact ⟨_,by rw [hβs,(tup_inj hL3).1]⟩
  ·exact absurd hz.symm hq0
end
end Go.Fil
