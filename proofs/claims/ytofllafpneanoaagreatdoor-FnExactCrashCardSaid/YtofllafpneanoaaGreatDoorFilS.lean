/- What stands at a place of a tree. -/
import Derived.Test.YtofllafpneanoaaGreatDoorFil4
set_option linter.unusedSectionVars false
namespace Go.Fil
open Go.RowKit
set_option linter.unusedVariables false
set_option linter.unusedSimpArgs false
structure RootOk (w:World) (G:Nat→Prop) (bx:Bool) (sh:Sh) (t0:Ty) (x:t0.T) (u:Value) (L:List Nat) (cs:List Value) (Lr:List Nat):Prop where
 root:rootC w bx u = cs
 ks:KS w G sh t0 x cs Lr
 nd:L.Nodup
 box:bx = true→∃ g c e,u = .pointer (some ⟨g,0,none⟩)∧w.heap[g]? = some (.cells c e (0,0))∧cs = c.toList∧L = g :: Lr
 val:bx = false→u = t0.val cs∧L = Lr
theorem RootOk.ndr {w:World} {G:Nat→Prop} {bx:Bool} {sh:Sh} {t0:Ty} {x:t0.T} {u:Value} {L Lr:List Nat} {cs:List Value} (h:RootOk w G bx sh t0 x u L cs Lr):Lr.Nodup:=by
 have:=h.nd
 cases bx with
 | true=>obtain ⟨g,c,e,_,_,_,rfl⟩:=h.box rfl; exact (List.nodup_cons.1 this).2
 | false=>rw [(h.val rfl).2] at this; exact this
theorem RootOk.sub {w:World} {G:Nat→Prop} {bx:Bool} {sh:Sh} {t0:Ty} {x:t0.T} {u:Value} {L Lr:List Nat} {cs:List Value} (h:RootOk w G bx sh t0 x u L cs Lr):∀ k∈Lr,k∈L:=by
 intro k hk
 cases bx with
 | true=>obtain ⟨g,c,e,_,_,_,rfl⟩:=h.box rfl; simp [hk]
 | false=>rw [(h.val rfl).2]; exact hk
theorem RootOk.inL {w:World} {G:Nat→Prop} {bx:Bool} {sh:Sh} {t0:Ty} {x:t0.T} {u:Value} {L Lr:List Nat} {cs:List Value} (h:RootOk w G bx sh t0 x u L cs Lr):rootIn bx u L:=by
 intro hb a ha
 obtain ⟨g,c,e,h1,_,_,rfl⟩:=h.box hb
 rw [h1] at ha
 injection ha with ha
 injection ha with ha
 subst ha
 simp
theorem KS_flat {w:World} {ok ok':Nat→Prop} {s:Sh} {t:Ty} {x:t.T} {cs:List Value} {L:List Nat} (hw:s.whole = true) (hf:t.flat = true) (h:KS w ok s t x cs L):K w ok' t x cs:=K_flat hf (KS_K hw h)
theorem tr_inj {bx bx':Bool} {sh sh':Sh} {t t':Ty} {x:t.T} {x':t'.T} (h:some (Ob.tr bx sh t x) = some (Ob.tr bx' sh' t' x')):bx = bx'∧sh = sh'∧∃ e:t = t',e ▸ x = x':=by
 injection h with h
 injection h with h1 h2 h3 h4
 subst h1; subst h2; subst h3
 exact ⟨rfl,rfl,rfl,eq_of_heq h4⟩
theorem sub_le {t:Ty}:∀ {t0:Ty} {x:t0.T} {off:Nat} {y:t.T},sub t0 x off t = some y→off + t.sz≤t0.sz:=by
 have base:∀ {t0:Ty} {x:t0.T} {off:Nat} {y:t.T},(if off = 0 then Ty.cast? t0 t x else none) = some y→off + t.sz≤t0.sz:=by
  intro t0 x off y h
  split at h
  ·obtain ⟨rfl,rfl⟩:=cast?_some h
   omega
  ·cases h
 intro t0
 induction t0 with
 | pair a b iha ihb =>
  intro x off y h
  simp only [sub] at h
  split at h
  ·rename_i e
   refine base (t0:=.pair a b) (x:=x) (y:=y) ?_
   rw [if_pos e.1]; exact h
  ·split at h
   ·have:=iha h; simp only [Ty.sz]; omega
   ·have:=ihb h; simp only [Ty.sz]; omega
 | int k=>intro x off y h; exact base (t0:=.int k) (by simpa [sub] using h)
 | bool=>intro x off y h; exact base (t0:=.bool) (by simpa [sub] using h)
 | str=>intro x off y h; exact base (t0:=.str) (by simpa [sub] using h)
 | slice e t ih=>intro x off y h; exact base (t0:=.slice e t) (by simpa [sub] using h)
 | unit=>intro x off y h; exact base (t0:=.unit) (by simpa [sub] using h)
section
variable [Lin] {a:Act} {w:World} {B:Nat} {okA:Nat→Prop} {w0:World} {β:Nat→Value} {st:St}
theorem Sim.root (hs:Sim B okA w0 β st a w) {s:Nat} {bx:Bool} {sh:Sh} {t0:Ty} {x:t0.T} (hob:St.obj st.ob s = some (.tr bx sh t0 x)) {u:Value} {L:List Nat} (hb:β s = tupV u L) :
  ∃ cs Lr,RootOk w (okD w B okA β st.ob false) bx sh t0 x u L cs Lr:=by
 obtain ⟨u',L',h1,h2,h3,h4⟩:=hs.ob s _ hob
 rw [hb] at h1
 obtain ⟨rfl,rfl⟩:=tup_inj h1
 cases bx with
 | true =>
  obtain ⟨g,cs,e,Lr,rfl,rfl,h5,h6⟩:=h4
  exact ⟨cs.toList,Lr,by simp [rootC,h5],h6,h2,fun _=>⟨g,cs,e,rfl,h5,rfl,rfl⟩,fun h=>by cases h⟩
 | false =>
  obtain ⟨cs,rfl,h6⟩:=h4
  refine ⟨cs,L,?_,h6,h2,(fun h=>by cases h),fun _=>⟨rfl,rfl⟩⟩
  simp only [rootC,Bool.false_eq_true,if_false]
  exact val_cells (KS_len h6) (KS_one h6)
/-- The cells at a place, and what they say. -/
theorem Sim.place (hs:Sim B okA w0 β st a w) {s:Nat} {bx:Bool} {sh:Sh} {t0:Ty} {x:t0.T} (hob:St.obj st.ob s = some (.tr bx sh t0 x)) {u:Value} {L:List Nat} (hb:β s = tupV u L)
  {p:List Stp} {off:Nat} {t:Ty} {y:t.T} {s1:Sh} {cs:List Value} (hp:PC w L (rootC w bx u) p off t.sz cs) (hg:getP t0 x p off t = some y) (hsh:shGP sh t0 p off t = some s1) :
  ∃ L1,KS w (okD w B okA β st.ob false) s1 t y cs L1∧∀ k∈L1,k∈L:=by
 obtain ⟨rc,Lr,hr⟩:=hs.root hob hb
 rcases hp with ⟨rfl,rfl⟩ | ⟨g,q,cur,e,fz,h1,h2,rfl⟩
 ·rw [hr.root]
  obtain ⟨La,L1,Lb,h3,_,h4,_⟩:=KS_focus hg hsh hr.ks
  exact ⟨L1,h4,fun k hk=>hr.sub k (by rw [h3]; simp [hk])⟩
 ·rw [hr.root] at h1
  obtain ⟨La,L1,Lb,cur',e',h3,_,h4,_,h5,_⟩:=KS_path p hr.ks hr.ndr h1 hg hsh
  rw [h2] at h4
  injection h4 with h4
  injection h4 with h4
  subst h4
  exact ⟨L1,h5,fun k hk=>hr.sub k (by rw [h3]; simp [hk])⟩
/-- A pointer to a place: where it points, and what stands there. -/
theorem Sim.at_pt (hs:Sim B okA w0 β st a w) {s:Nat} {p:List Stp} {off:Nat} {t':Ty} {v:Value} (hv:RepA w (okD w B okA β st.ob) β st.ob (.pt s p off t') v)
  {bx:Bool} {sh:Sh} {t0:Ty} {x:t0.T} (hob:St.obj st.ob s = some (.tr bx sh t0 x)) {t:Ty} {y:t.T} {s1:Sh} (hg:getP t0 x p off t = some y) (hsh:shGP sh t0 p off t = some s1) :
  ∃ g q cs L1,v = .pointer (some ⟨g,q,none⟩)∧At w ⟨g,q,none⟩ cs∧RepA w (okD w B okA β st.ob) β st.ob (.vw s p off t) (t.val cs)∧KS w (okD w B okA β st.ob false) s1 t y cs L1:=by
 obtain ⟨u,L,bx',sh',t0',x',hb,hob',hv⟩:=hv
 rw [hob] at hob'
 obtain ⟨rfl,rfl,rfl,hx⟩:=tr_inj hob'
 have hx:x = x':=hx
 subst hx
 obtain ⟨rc,Lr,hr⟩:=hs.root hob hb
 rcases hv with ⟨rfl,rfl,g,rfl,rfl⟩ | ⟨hin,g,q,hpl,rfl⟩
 ·obtain ⟨g',c,e,h1,h2,rfl,h4⟩:=hr.box rfl
  injection h1 with h1; injection h1 with h1; injection h1 with h1
  subst h1
  have hpc:PC w L (rootC w true (.pointer (some ⟨g,0,none⟩))) [] off t.sz ((c.toList.drop off).take t.sz):=.inl ⟨rfl,by rw [hr.root]⟩
  obtain ⟨L1,k1,_⟩:=hs.place hob hb hpc hg hsh
  exact ⟨g,off,_,L1,rfl,(at_rowT h2 off).take _,⟨_,L,true,sh,t0,x,_,hb,hob,hr.inL,hpc,rfl⟩,k1⟩
 ·rw [hr.root] at hpl
  obtain ⟨La,L1,Lb,cur,e,h3,_,h4,_,h5,_⟩:=KS_path p hr.ks hr.ndr hpl hg hsh
  exact ⟨g,q,_,L1,rfl,(at_rowT h4 q).take _,⟨u,L,bx,sh,t0,x,_,hb,hob,hin,.inr ⟨g,q,cur,e,_,by rw [hr.root]; exact hpl,h4,rfl⟩,rfl⟩,h5⟩
/-- A view: its cells. -/
theorem Sim.at_vw (hs:Sim B okA w0 β st a w) {s:Nat} {p:List Stp} {off:Nat} {t:Ty} {v:Value} (hv:RepA w (okD w B okA β st.ob) β st.ob (.vw s p off t) v)
  {bx:Bool} {sh:Sh} {t0:Ty} {x:t0.T} (hob:St.obj st.ob s = some (.tr bx sh t0 x)) {y:t.T} {s1:Sh} (hg:getP t0 x p off t = some y) (hsh:shGP sh t0 p off t = some s1) :
  ∃ u L cs L1,β s = tupV u L∧rootIn bx u L∧PC w L (rootC w bx u) p off t.sz cs∧v = t.val cs∧KS w (okD w B okA β st.ob false) s1 t y cs L1∧∀ k∈L1,k∈L:=by
 obtain ⟨u,L,bx',sh',t0',x',cs,hb,hob',hin,hpc,rfl⟩:=hv
 rw [hob] at hob'
 obtain ⟨rfl,rfl,rfl,hx⟩:=tr_inj hob'
 obtain ⟨L1,k1,k2⟩:=hs.place hob hb hpc hg hsh
 exact ⟨u,L,cs,L1,hb,hin,hpc,rfl,k1,k2⟩
theorem rdA_rep {G:Bool→Nat→Prop} {ob:List (Option Ob)} {s1:Sh} {t:Ty} {y:t.T} {cs:List Value} {L1:List Nat} {A:A} (h:KS w (G false) s1 t y cs L1) (hA:RepA w G β ob A (t.val cs)):RepA w G β ob (rdA s1 t y A) (t.val cs):=by
 unfold rdA
 split
 ·rename_i hc
  rw [Bool.and_eq_true] at hc
  exact ⟨cs,KS_flat hc.2 hc.1 h,rfl⟩
 ·split
  ·rename_i hz
   cases s1 with
   | fz=>exact ⟨cs,h.2,rfl⟩
   | _=>simp [Sh.isFz] at hz
  ·exact hA
/-- One step more. -/
theorem PlAt_snoc {L:List Nat} {e:Nat} {te:Ty} {j:Int} {g2 n c:Nat} (hj:0≤j) (hjn:j.toNat < n) (hm:g2∈L):∀ {p:List Stp} {t0:Ty} {x:t0.T} {off:Nat} {xs:List te.T} {cs:List Value} {g q:Nat} {cur:Array Value} {e':Nat} {fz:Nat × Nat},getP t0 x p off (.slice e te) = some xs→PlAt w L cs p off g q→w.heap[g]? = some (.cells cur e' fz)→cur.toList[q]? = some (.slice (some ⟨g2,0,none⟩) n c)→PlAt w L cs (p ++ [⟨off,e,te,j⟩]) 0 g2 (j.toNat * te.sz)
 | [],_,_,_,_,_,_,_,_,_,_,_,h,_,_=>h.elim
 | [st],t0,x,off,xs,cs,g,q,cur,e',fz,hg,⟨h0,n1,c1,h1,h2,h3,hq⟩,hh,hc=>by
  simp only [getP] at hg
  split at hg
  case h_2=>cases hg
  have hle:=sub_le hg
  have hsz:(Ty.slice e te).sz = 1:=rfl
  refine ⟨g,n1,c1,cur,e',fz,h0,h1,h2,h3,hh,hm,n,c,?_,hj,hjn,by simp⟩
  show ((cur.toList.drop (st.i.toNat * st.te.sz)).take st.te.sz)[off]? = _
  rw [List.getElem?_take,if_pos (by omega),List.getElem?_drop,← hq]
  exact hc
 | st :: st' :: p,t0,x,off,xs,cs,g,q,cur,e',fz,hg,⟨g1,n1,c1,cur1,e1,fz1,h0,h1,h2,h3,h4,h5⟩,hh,hc=>by
  rw [getP] at hg
  split at hg
  case h_2=>cases hg
  exact ⟨g1,n1,c1,cur1,e1,fz1,h0,h1,h2,h3,h4,PlAt_snoc hj hjn hm hg h5 hh hc⟩
end
end Go.Fil
