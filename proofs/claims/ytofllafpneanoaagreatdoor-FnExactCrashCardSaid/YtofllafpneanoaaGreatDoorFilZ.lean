/- Operations on trees. -/
import Derived.Test.YtofllafpneanoaaGreatDoorFil9
set_option linter.unusedSectionVars false
namespace Go.Fil
open Go.RowKit
set_option linter.unusedVariables false
set_option linter.unusedSimpArgs false
theorem KS_zero (w:World) (ok:Nat→Prop):∀ {s:Sh} {t:Ty},s.fits t = true→KS w ok s t t.zero t.zcells []
 | .fz,t,_=>⟨rfl,K_zero w ok t⟩
 | .ow s,.slice e t,_=>⟨.slice none 0 0,[],rfl,World.ownsRow_nil w 0 e t.sz,trivial,rfl⟩
 | .pr a b,.pair t u,h=>by
  simp only [Sh.fits,Bool.and_eq_true] at h
  exact ⟨_,_,[],[],rfl,rfl,KS_zero w ok h.1,KS_zero w ok h.2⟩
theorem KS_full {w:World} {ok ok':Nat→Prop}:∀ {s:Sh} {t:Ty} {x:t.T} {cs:List Value} {L:List Nat},s.full t = true→KS w ok s t x cs L→KS w ok' s t x cs L
 | .fz,t,x,cs,L,hf,h=>⟨h.1,K_flat hf h.2⟩
 | .ow s,.slice e t,xs,cs,L,hf,h=>by
  obtain ⟨v,rs,rfl,hr,ha,rfl⟩:=h
  exact ⟨v,rs,rfl,hr,ha.imp (fun x r hx=>KS_full (by simpa [Sh.full] using hf) hx),rfl⟩
 | .pr a b,.pair t u,x,cs,L,hf,h=>by
  obtain ⟨c1,c2,L1,L2,rfl,rfl,h1,h2⟩:=h
  simp only [Sh.full,Bool.and_eq_true] at hf
  exact ⟨c1,c2,L1,L2,rfl,rfl,KS_full hf.1 h1,KS_full hf.2 h2⟩
theorem rows_weak {w:World} {ok:Nat→Prop} {s s':Sh} {t:Ty} (ih:∀ {x:t.T} {cs:List Value} {L:List Nat},L.Nodup→KS w ok s t x cs L→∃ L',L'.Sublist L∧KS w (fun k=>ok k∨(k∈L∧k∉L')) s' t x cs L'):∀ {xs:List t.T} {rs:List (List Value × List Nat)},(rs.map Prod.snd).flatten.Nodup→All2 (fun x r=>KS w ok s t x r.1 r.2) xs rs →
  ∃ rs':List (List Value × List Nat),rs'.map Prod.fst = rs.map Prod.fst∧(rs'.map Prod.snd).flatten.Sublist (rs.map Prod.snd).flatten∧All2 (fun x r=>KS w (fun k=>ok k∨(k∈(rs.map Prod.snd).flatten∧k∉(rs'.map Prod.snd).flatten)) s' t x r.1 r.2) xs rs'
 | [],[],_,_=>⟨[],rfl,List.Sublist.refl _,trivial⟩
 | x :: xs,r :: rs,hn,h=>by
  simp only [List.map_cons,List.flatten_cons] at hn
  have hn0:=hn
  rw [List.nodup_append] at hn
  obtain ⟨n1,n2,n3⟩:=hn
  obtain ⟨L',h1,h2⟩:=ih n1 h.1
  obtain ⟨rs',h3,h4,h5⟩:=rows_weak ih n2 h.2
  refine ⟨(r.1,L') :: rs',by simp [h3],?_,?_⟩
  ·simp only [List.map_cons,List.flatten_cons]
   exact h1.append h4
  ·simp only [List.map_cons,List.flatten_cons]
   refine ⟨KS_step (fun k hk hlt=>⟨?_,hlt,rfl⟩) (fun _ _=>rfl) h2,h5.imp (fun x q hq=>KS_step (fun k hk hlt=>⟨?_,hlt,rfl⟩) (fun _ _=>rfl) hq)⟩
   ·rcases hk with hk | ⟨hk,hk'⟩
    ·exact .inl hk
    ·refine .inr ⟨List.mem_append.2 (.inl hk),fun h6=>?_⟩
     rcases List.mem_append.1 h6 with h6 | h6
     ·exact hk' h6
     ·exact n3 k hk k (h4.subset h6) rfl
   ·rcases hk with hk | ⟨hk,hk'⟩
    ·exact .inl hk
    ·refine .inr ⟨List.mem_append.2 (.inr hk),fun h6=>?_⟩
     rcases List.mem_append.1 h6 with h6 | h6
     ·exact n3 k (h1.subset h6) k hk rfl
     ·exact hk' h6
 | [],_ :: _,_,h=>h.elim
 | _ :: _,[],_,h=>h.elim
theorem KS_weak {w:World} {ok:Nat→Prop}:∀ {s' s:Sh} {t:Ty} {x:t.T} {cs:List Value} {L:List Nat},s'.le s = true→L.Nodup→KS w ok s t x cs L→∃ L',L'.Sublist L∧KS w (fun k=>ok k∨(k∈L∧k∉L')) s' t x cs L'
 | .fz,s,t,x,cs,L,hl,_,h=>⟨[],List.nil_sublist _,rfl,K_mono (fun k hk _=>hk.imp id (fun hk=>⟨hk,by simp⟩)) (KS_K (by simpa [Sh.le] using hl) h)⟩
 | .mv,s,t,x,cs,L,hl,_,h=>by
  cases s <;> simp [Sh.le] at hl
  exact ⟨L,List.Sublist.refl _,h⟩
 | .ow a,s,t,x,cs,L,hl,hn,h=>by
  cases s with
  | ow b =>
   have hl:a.le b = true:=by simpa [Sh.le] using hl
   cases t with
   | slice e t =>
    obtain ⟨v,rs,rfl,hr,ha,rfl⟩:=h
    have hn0:=hn
    rw [List.nodup_append] at hn
    obtain ⟨n1,n2,n3⟩:=hn
    obtain ⟨rs',h3,h4,h5⟩:=rows_weak (fun hn h=>KS_weak hl hn h) n2 ha
    refine ⟨v.ownBlock.toList ++ (rs'.map Prod.snd).flatten,(List.Sublist.refl _).append h4,v,rs',rfl,by rw [h3]; exact hr,h5.imp (fun x q hq=>KS_step (fun k hk hlt=>⟨?_,hlt,rfl⟩) (fun _ _=>rfl) hq),rfl⟩
    rcases hk with hk | ⟨hk,hk'⟩
    ·exact .inl hk
    ·refine .inr ⟨List.mem_append.2 (.inr hk),fun h6=>?_⟩
     rcases List.mem_append.1 h6 with h6 | h6
     ·exact n3 k h6 k hk rfl
     ·exact hk' h6
   | _=>exact h.elim
  | _=>simp [Sh.le] at hl
 | .pr a b,s,t,x,cs,L,hl,hn,h=>by
  cases s with
  | pr c d =>
   simp only [Sh.le,Bool.and_eq_true] at hl
   cases t with
   | pair t u =>
    obtain ⟨c1,c2,L1,L2,rfl,rfl,h1,h2⟩:=h
    rw [List.nodup_append] at hn
    obtain ⟨n1,n2,n3⟩:=hn
    obtain ⟨L1',k1,k2⟩:=KS_weak hl.1 n1 h1
    obtain ⟨L2',k3,k4⟩:=KS_weak hl.2 n2 h2
    refine ⟨L1' ++ L2',k1.append k3,c1,c2,L1',L2',rfl,rfl,KS_step (fun k hk hlt=>⟨?_,hlt,rfl⟩) (fun _ _=>rfl) k2,KS_step (fun k hk hlt=>⟨?_,hlt,rfl⟩) (fun _ _=>rfl) k4⟩
    ·rcases hk with hk | ⟨hk,hk'⟩
     ·exact .inl hk
     ·refine .inr ⟨List.mem_append.2 (.inl hk),fun h6=>?_⟩
      rcases List.mem_append.1 h6 with h6 | h6
      ·exact hk' h6
      ·exact n3 k hk k (k3.subset h6) rfl
    ·rcases hk with hk | ⟨hk,hk'⟩
     ·exact .inl hk
     ·refine .inr ⟨List.mem_append.2 (.inr hk),fun h6=>?_⟩
      rcases List.mem_append.1 h6 with h6 | h6
      ·exact n3 k (k1.subset h6) k hk rfl
      ·exact hk' h6
   | _=>exact h.elim
  | _=>simp [Sh.le] at hl
 | .ct a n,s,t,x,cs,L,hl,hn,h=>by
  cases s with
  | ow b =>
   simp only [Sh.le,Bool.and_eq_true,decide_eq_true_eq] at hl
   obtain ⟨rfl,rfl⟩:=hl
   cases t with
   | slice e t =>
    obtain ⟨v,rs,rfl,hr,ha,rfl⟩:=h
    refine ⟨_,List.Sublist.refl _,v,rs,rfl,hr,All2.of_get (by rw [List.length_zipIdx]; exact ha.length) (fun i x r hx hr'=>?_),rfl⟩
    rw [List.getElem?_zipIdx,Option.map_eq_some_iff] at hx
    obtain ⟨x0,hx,rfl⟩:=hx
    rw [if_neg (by simp)]
    exact KS_step (fun k hk hlt=>⟨.inl hk,hlt,rfl⟩) (fun _ _=>rfl) (ha.get hx hr')
   | _=>exact h.elim
  | ct b m =>
   simp only [Sh.le,Bool.and_eq_true,decide_eq_true_eq] at hl
   obtain ⟨rfl,rfl⟩:=hl
   exact ⟨L,List.Sublist.refl _,KS_step (fun k hk hlt=>⟨.inl hk,hlt,rfl⟩) (fun _ _=>rfl) h⟩
  | _=>simp [Sh.le] at hl
theorem ksite_site {A:A} {s:Nat} (h:A.ksite = some s):A.site = some s:=by
 cases A with
 | pt s' p off t =>
  simp only [Fil.A.ksite] at h
  split at h
  ·cases h
  ·exact h
 | _=>exact h
theorem deep_ksite {A:A} {s:Nat} (h:A.deep s = true):A.ksite = some s:=by
 cases A with
 | pt s' p off t =>
  simp only [Fil.A.deep,Bool.and_eq_true,beq_iff_eq,Bool.not_eq_true'] at h
  simp only [Fil.A.ksite,h.2]
  simp [h.1]
 | vw s' p off t=>simpa [Fil.A.deep,Fil.A.ksite,Fil.A.site] using h
 | tp s' t=>simpa [Fil.A.deep,Fil.A.ksite,Fil.A.site] using h
 | pb s' off t=>simp [Fil.A.deep] at h
 | _=>simp [Fil.A.deep] at h
theorem set_set' {α:Type} (o:List α) (i:Nat) (a b:α):(o.set i a).set i b = o.set i b:=by
 apply List.ext_getElem?
 intro j
 simp only [List.getElem?_set,List.length_set]
 by_cases e:i = j
 ·subst e; simp
 ·simp [e]
section
variable [Lin] {P:Program} {E:Env} {o:Oper} {a:Act} {w:World} {next:Act→World→Prop} {Q:Exit→Act→World→Prop} {B:Nat} {okA:Nat→Prop} {w0:World} {β:Nat→Value} {st:St} {ρ:Type} {r:ρ}
theorem dtL_V (he:EnvOk P E) (hs:Sim B okA w0 β st a w) {t:Nat} {x:Operand} {d:Dt} (h:dtL E st.ob t (st.val x) = some d):V w (fun k=>k < w.heap.size) d.t d.x (a.eval x):=by
 have hv:=hs.val x
 unfold dtL at h
 split at h
 ·rename_i s hA
  rw [hA] at hv
  split at h
  ·rename_i e te fr xs i hob hT
   split at h
   ·injection h with h
    subst h
    obtain ⟨css,h1,h2⟩:=hs.ob _ _ hob
    have hev:a.eval x = β s:=hv.1
    rw [hev]
    exact own_V h1 (h2.imp (fun x c hx=>K_step (fun k hk hlt=>⟨hlt,hlt,rfl⟩) hx)) (fun k hk=>(own_lt' h1 hk).2)
   ·cases h
  ·cases h
 ·rename_i s p off t' hA
  rw [hA] at hv
  split at h
  ·rename_i bx sh t0 x0 i hob hT
   split at h
   ·split at h
    ·rename_i y s1 hg hsh
     split at h
     ·rename_i hw
      injection h with h
      subst h
      obtain ⟨u,L,cs,L1,_,_,_,h1,h2,h3⟩:=hs.at_vw hv hob hg hsh
      refine ⟨cs,K_step (fun k hk hlt=>⟨hlt,hlt,rfl⟩) (KS_K hw h2),h1⟩
     ·cases h
    ·cases h
   ·cases h
  ·cases h
 ·obtain ⟨hV,_⟩:=dtOf_V h hv
  exact V_step (fun k hk hlt=>⟨hlt,hlt,rfl⟩) hV
theorem dtsL_V (he:EnvOk P E) (hs:Sim B okA w0 β st a w):∀ {ts:List Nat} {xs:List Operand} {ds:List Dt},dtsL E st.ob ts (xs.map st.val) = some ds→All2 (fun d v=>V w (fun k=>k < w.heap.size) d.t d.x v) ds (xs.map a.eval)
 | [],[],ds,h=>by
  simp only [List.map_nil,dtsL,Option.some.injEq] at h
  subst h; trivial
 | t :: ts,x :: xs,ds,h=>by
  simp only [dtsL,List.map_cons] at h
  obtain ⟨d,h1,h⟩:=Option.bind_eq_some_iff.1 h
  obtain ⟨ds',h2,rfl⟩:=Option.map_eq_some_iff.1 h
  exact ⟨dtL_V he hs h1,dtsL_V he hs h2⟩
 | [],_ :: _,_,h=>by simp [dtsL] at h
 | _ :: _,[],_,h=>by simp [dtsL] at h
theorem killD_nil (tm:List A):killD [] tm = tm:=by unfold killD; simp
/-- A new tree at a free place. -/
theorem Sim.tr_new (hs:Sim B okA w0 β st a w) {s:Nat} (hfree:st.ob[s]? = some none) {w1:World} (hg:Grow w w1) {bx:Bool} {sh:Sh} {t:Ty} {x:t.T} {u tv:Value} {L:List Nat} {A:A} (hn:L.Nodup) (hL:∀ k∈L,w.heap.size≤k)
  (hT:Mv w w1 (okD w B okA β st.ob) (okD w1 B okA (upd β s (tupV u L)) (st.ob.set s (some (.tr bx sh t x))))→TrIs w1 (okD w1 B okA (upd β s (tupV u L)) (st.ob.set s (some (.tr bx sh t x))) false) bx sh t x u L)
  (hA:TrIs w1 (okD w1 B okA (upd β s (tupV u L)) (st.ob.set s (some (.tr bx sh t x))) false) bx sh t x u L→(A = .pt s [] 0 t∧bx = true∧tv = u)∨(A = .vw s [] 0 t∧bx = false∧tv = u)∨(A = .tp s t∧bx = false∧tv = tupOf t u.cells.toList)) (hs0:s≠0) :
  Sim B okA w0 (upd β s (tupV u L)) ⟨st.tm.set s A,st.ob.set s (some (.tr bx sh t x))⟩ (a.put (some s) tv) w1:=by
 have hlt:s < st.ob.length:=(List.getElem?_eq_some_iff.1 hfree).1
 have hn':=obj_none hfree
 have how:∀ k,k < w.heap.size→Ow (upd β s (tupV u L)) (st.ob.set s (some (.tr bx sh t x))) k→Ow β st.ob k:=by
  rintro k hk ⟨s',o',h1,h2⟩
  rw [obj_set] at h1
  by_cases e:s = s'
  ·subst e
   simp only [upd,if_true] at h2
   have:=hL k (owns_tup.1 h2)
   omega
  ·simp only [e,false_and,if_false] at h1
   exact ⟨s',o',h1,by simpa [upd,Ne.symm e] using h2⟩
 have hmv:=okD_mv (B:=B) (okA:=okA) (fun k _ hk=>hg.below.block k hk) hg.below.size how
 have hTr:=hT hmv
 refine hs.new hfree hg (fun k hk=>hL k (owns_tup.1 hk)) (RepO_tr hTr hn (fun k hk=>.inl (Nat.le_trans hs.size (hL k hk)))) ?_ (by intros; simp) (fun _ _ _ _ _=>hs0)
 have hob:St.obj (st.ob.set s (some (.tr bx sh t x))) s = some (.tr bx sh t x):=by rw [obj_set]; simp [hlt]
 rcases hA hTr with ⟨rfl,rfl,rfl⟩ | ⟨rfl,rfl,rfl⟩ | ⟨rfl,rfl,rfl⟩
 ·have h2:=hTr
  unfold TrIs at h2
  rw [if_pos rfl] at h2
  obtain ⟨g,cs,e,L',_,hu,_,_⟩:=h2
  exact ⟨tv,L,true,sh,t,x,by simp [upd],hob,.inl ⟨rfl,rfl,g,hu,hu⟩⟩
 ·have h2:=hTr
  unfold TrIs at h2
  rw [if_neg (by simp)] at h2
  obtain ⟨cs,rfl,hK⟩:=h2
  refine ⟨t.val cs,L,false,sh,t,x,cs,by simp [upd],hob,(fun h=>by cases h),.inl ⟨rfl,?_⟩,rfl⟩
  have h3:rootC w1 false (t.val cs) = cs:=by
   simp only [rootC,Bool.false_eq_true,if_false]
   exact val_cells (KS_len hK) (KS_one hK)
  rw [h3,List.drop_zero,← KS_len hK,List.take_length]
 ·exact ⟨u,L,false,sh,t,x,by simp [upd],hob,(fun h=>by cases h),rfl⟩
theorem KS_flatSh {w:World} {ok ok':Nat→Prop}:∀ {t:Ty} {s:Sh} {x:t.T} {cs:List Value} {L:List Nat},flOk s t = true→KS w ok s t x cs L→KS w ok' (flatSh t) t x cs []
 | .pair a b,s,x,cs,L,hf,h=>by
  unfold flatSh
  unfold flOk at hf
  by_cases hp:(Ty.pair a b).flat = true
  ·rw [if_pos hp] at hf ⊢
   exact ⟨rfl,KS_flat hf hp h⟩
  ·rw [if_neg hp] at hf ⊢
   rw [Bool.and_eq_true] at hf
   obtain ⟨c1,c2,L1,L2,rfl,rfl,h1,h2⟩:=KS_split h
   exact ⟨c1,c2,[],[],rfl,rfl,KS_flatSh hf.1 h1,KS_flatSh hf.2 h2⟩
 | .int _,s,x,cs,L,hf,h=>⟨rfl,KS_flat (by simpa [flOk,Ty.flat] using hf) rfl h⟩
 | .bool,s,x,cs,L,hf,h=>⟨rfl,KS_flat (by simpa [flOk,Ty.flat] using hf) rfl h⟩
 | .str,s,x,cs,L,hf,h=>⟨rfl,KS_flat (by simpa [flOk,Ty.flat] using hf) rfl h⟩
 | .unit,s,x,cs,L,hf,h=>⟨rfl,KS_flat (by simpa [flOk,Ty.flat] using hf) rfl h⟩
 | .slice _ _,s,x,cs,L,hf,h=>⟨rfl,KS_len h,KS_one h⟩
theorem flOk_fz:∀ t:Ty,flOk .fz t = true
 | .pair a b=>by
  unfold flOk
  by_cases hp:(Ty.pair a b).flat = true
  ·rw [if_pos hp]; rfl
  ·rw [if_neg hp]
   show (flOk .fz a && flOk .fz b) = true
   rw [flOk_fz a,flOk_fz b]; rfl
 | .int _=>rfl
 | .bool=>rfl
 | .str=>rfl
 | .unit=>rfl
 | .slice _ _=>rfl
theorem KS_forget {w:World} {ok ok':Nat→Prop} {t:Ty} {x:t.T} {cs:List Value} {L:List Nat} (h:KS w ok (.ow .fz) t x cs L):KS w ok' (.ow (flatSh t.el)) t x cs L:=by
 cases t with
 | slice e t =>
  obtain ⟨v,rs,rfl,hr,ha,rfl⟩:=h
  refine ⟨v,rs,rfl,hr,ha.imp (fun x r hx=>?_),rfl⟩
  have:=KS_flatSh (ok':=ok') (flOk_fz t) hx
  have h2:r.2 = []:=hx.1
  rw [h2]
  exact this
 | _=>exact h.elim
theorem allocT_sound (he:EnvOk P E) (hs:Sim B okA w0 β st a w) {t s:Nat} {i:TI} (ho:o.op = .alloc t) (hd:o.dst = some s) (hT:E.T t = some i) (hfree:st.ob[s]? = some none) (hs0:s≠0) {sh:Sh} (hf:sh.fits i.ty = true)
  (hn:∀ β' a' w',Sim B okA w0 β' ⟨st.tm.set s (.pt s [] 0 i.ty),st.ob.set s (some (.tr true sh i.ty i.ty.zero))⟩ a' w'→next a' w'):o.wp P a w next Q:=by
 have ht:=he.T _ _ hT
 have hz:=run_zero ht w
 have hzc:(i.ty.val i.ty.zcells).cells.toList = i.ty.zcells:=val_cells (zcells_len _) (K_one (K_zero w (fun _=>True) i.ty))
 have hrun:(execOp a.eval o).run P w = .ok (.value (.pointer (some ⟨w.heap.size,0,none⟩))) (w.alloc (.cells (i.ty.val i.ty.zcells).cells t)):=by
  simp [execOp,ho,Instr.alloc,hz,newVar,newRow,newObj,Sem.run]
 unfold Oper.wp
 rw [hrun]
 show next (a.put o.dst _) _
 rw [hd]
 refine hn _ _ _ (hs.tr_new hfree (Grow.alloc w _) (u:=.pointer (some ⟨w.heap.size,0,none⟩)) (L:=[w.heap.size]) (by simp) (by simp) (fun _=>?_) (fun _=>.inl ⟨rfl,rfl,rfl⟩) hs0)
 unfold TrIs
 rw [if_pos rfl]
 exact ⟨w.heap.size,_,t,[],rfl,rfl,plain_alloc w _ t,by rw [hzc]; exact KS_zero _ _ hf⟩
theorem Sh.le_refl:∀ s:Sh,s.le s = true
 | .fz=>rfl
 | .mv=>rfl
 | .ow a=>Sh.le_refl a
 | .pr a b=>by simp [Sh.le,Sh.le_refl a,Sh.le_refl b]
 | .ct a n=>by simp [Sh.le]
theorem callF_sound (he:EnvOk P E) (hs:Sim B okA w0 β st a w) {c:Call} {f:FuncId} (ho:o.op = .call c) (hc:c.callee = .value (.func f)) {Kd:Dl→Option ρ} {K0:Option ρ} (h:callF E o st f c.argTypes.toList (c.args.toList.map st.val) Kd K0 = some r) (h0:K0 = some r→o.wp P a w next Q)
  (hn:∀ δ β' a' w',Sim B okA w0 β' (δ.app o.dst st) a' w'→Kd δ = some r→next a' w'):o.wp P a w next Q:=by
 unfold callF at h
 split at h
 case h_2=>exact h0 h
 rename_i s hd
 split at h
 case h_2=>exact h0 h
 split at h
 case h_2=>cases h
 rename_i ds hds
 split at h
 case h_2=>cases h
 rename_i sr hsr
 split at h
 case h_2=>cases h
 rename_i hfree
 split at h
 case isFalse=>cases h
 rename_i hc
 obtain ⟨hshe,htp,hs0⟩:=hc
 obtain ⟨y,h1,h2⟩:=Option.bind_eq_some_iff.1 h
 have hok:=he.S _ _ _ _ hsr h1
 obtain ⟨fn,g1,g2,g3⟩:=hok.fn
 have hrun:(execOp a.eval o).run P w = .ok (.enter f (c.args.toList.map a.eval).toArray) w:=by
  have h3:(c.args.toList.map a.eval).toArray = c.args.map a.eval:=by
   apply Array.ext'; simp
  rw [h3]
  simp [execOp,ho,resolve,hc,Act.eval,Deferred.ofValue,invoke,callFunc,program,Sem.run,g1,g2,g3]
 unfold Oper.wp
 rw [hrun]
 show Calls P f _ w _
 have fin:∀ (ok':Nat→Prop),(∀ k,ok' k→k < w.heap.size)→All2 (fun d v=>V w ok' d.t d.x v) ds (c.args.toList.map a.eval)→Calls P f (c.args.toList.map a.eval).toArray w fun e w'=>∃ v,e = .returned v∧next (a.put o.dst v) w':=by
  intro ok' hlt hargs
  refine (hok.goes w ok' _ hlt hargs).mono ?_
  rintro e1 w1 ⟨cs,L0,rfl,hK0,hnd0,hL0,hg⟩
  refine ⟨_,rfl,?_⟩
  rw [hd]
  have hsz:=hs.size
  obtain ⟨L,hsub,hK1⟩:∃ L:List Nat,L.Sublist L0∧KS w1 (fun k=>((∀ k,ok' k→okD w B okA β st.ob false k)∧ok' k∨w.heap.size≤k)∧k∉L) (.ow (flatSh sr.t.el)) sr.t y cs L :=
   ⟨L0,List.Sublist.refl _,KS_forget (hshe ▸ hK0)⟩
  have hnd:=hnd0.sublist hsub
  have hL:∀ k∈L,w.heap.size≤k:=fun k hk=>hL0 k (hsub.subset hk)
  have hS:=hs.tr_new hfree hg (bx:=false) (sh:=(.ow (flatSh sr.t.el))) (t:=sr.t) (x:=y) (u:=sr.t.val cs) (tv:=if sr.tp then tupOf sr.t cs else sr.t.val cs) (L:=L) (A:=Fil.A.vw s [] 0 sr.t) hnd hL (fun hmv=>?_) (fun _=>.inr (.inl ⟨rfl,rfl,by rw [htp]; rfl⟩)) hs0
  ·have:(Dl.u [(s,some (.tr false (.ow (flatSh sr.t.el)) sr.t y))] [] (.vw s [] 0 sr.t)).app o.dst st = ⟨st.tm.set s (.vw s [] 0 sr.t),st.ob.set s (some (.tr false (.ow (flatSh sr.t.el)) sr.t y))⟩:=by
    simp [Dl.app,hd,St.set,updOb,killD_nil]
   exact hn (.u [(s,some (.tr false (.ow (flatSh sr.t.el)) sr.t y))] [] (.vw s [] 0 sr.t)) _ _ _ (this.symm ▸ hS) h2
  ·unfold TrIs
   rw [if_neg (by simp)]
   refine ⟨cs,rfl,?_⟩
   refine KS_step (fun k hk hlt'=>⟨?_,hlt',rfl⟩) (fun _ _=>rfl) hK1
   rcases hk.1 with ⟨hcl,h5⟩ | h5
   ·exact (hmv false k (hcl k h5) (hlt k h5)).1
   ·refine ⟨.inr (Nat.le_trans hsz h5),?_,fun h=>by cases h⟩
    rintro ⟨s',o',h6,h7⟩
    rw [obj_set] at h6
    by_cases es:s = s'
    ·subst es
     simp only [upd,if_true] at h7
     exact hk.2 (owns_tup.1 h7)
    ·simp only [es,false_and,if_false] at h6
     have h7:owns (β s') k:=by simpa [upd,Ne.symm es] using h7
     have:=((hs.ob s' o' h6).lt h7).2
     omega
 refine (fin (fun k=>k < w.heap.size) (fun k hk=>hk) (dtsL_V he hs hds)).mono ?_
 rintro e1 w1 ⟨v,rfl,hv⟩
 exact hv
theorem callT_sound (he:EnvOk P E) (hs:Sim B okA w0 β st a w) {c:Call} {f:FuncId} (ho:o.op = .call c) (hc:c.callee = .value (.func f)) {Kd:Dl→Option ρ} {K0:Option ρ} (h:callT E o st f c.argTypes.toList (c.args.toList.map st.val) Kd K0 = some r) (h0:K0 = some r→o.wp P a w next Q)
  (hn:∀ δ β' a' w',Sim B okA w0 β' (δ.app o.dst st) a' w'→Kd δ = some r→next a' w'):o.wp P a w next Q:=by
 unfold callT at h
 split at h
 case h_2=>exact h0 h
 rename_i ds hds
 split at h
 case h_2=>exact h0 h
 rename_i sr hsr
 split at h
 case h_2=>cases h
 rename_i s hd
 split at h
 case h_2=>cases h
 rename_i hfree
 split at h
 case isFalse=>cases h
 rename_i hfull
 rw [Bool.and_eq_true] at hfull
 have hs0:s≠0:=by
  have:=hfull.2
  simpa using this
 obtain ⟨shn,y,hle,h1,h2⟩:∃ shn y,shn.le sr.sh = true∧sr.res = some y∧Kd (.u [(s,some (.tr false shn sr.t y))] [] (resA sr.tp s sr.t)) = some r:=by
  split at h
  ·obtain ⟨y,h1,h2⟩:=Option.bind_eq_some_iff.1 h
   exact ⟨_,y,Sh.le_refl _,h1,h2⟩
  ·split at h
   case isFalse=>cases h
   rename_i hle
   obtain ⟨y,h1,h2⟩:=Option.bind_eq_some_iff.1 h
   exact ⟨_,y,hle,h1,h2⟩
 replace hfull:=hfull.1
 have hok:=he.S _ _ _ _ hsr h1
 obtain ⟨fn,g1,g2,g3⟩:=hok.fn
 have hrun:(execOp a.eval o).run P w = .ok (.enter f (c.args.toList.map a.eval).toArray) w:=by
  have h3:(c.args.toList.map a.eval).toArray = c.args.map a.eval:=by
   apply Array.ext'; simp
  rw [h3]
  simp [execOp,ho,resolve,hc,Act.eval,Deferred.ofValue,invoke,callFunc,program,Sem.run,g1,g2,g3]
 unfold Oper.wp
 rw [hrun]
 show Calls P f _ w _
 have fin:∀ (ok':Nat→Prop),(∀ k,ok' k→k < w.heap.size)→All2 (fun d v=>V w ok' d.t d.x v) ds (c.args.toList.map a.eval)→(sr.sh.full sr.t = true∨∀ k,ok' k→okD w B okA β st.ob false k)→Calls P f (c.args.toList.map a.eval).toArray w fun e w'=>∃ v,e = .returned v∧next (a.put o.dst v) w':=by
  intro ok' hlt hargs hcl
  refine (hok.goes w ok' _ hlt hargs).mono ?_
  rintro e1 w1 ⟨cs,L0,rfl,hK0,hnd0,hL0,hg⟩
  refine ⟨_,rfl,?_⟩
  rw [hd]
  have hsz:=hs.size
  obtain ⟨L,hsub,hK1⟩:∃ L:List Nat,L.Sublist L0∧KS w1 (fun k=>((∀ k,ok' k→okD w B okA β st.ob false k)∧ok' k∨w.heap.size≤k)∧k∉L) shn sr.t y cs L:=by
   rcases hcl with hfl | hcl
   ·obtain ⟨L,hsub,hK⟩:=KS_weak (ok:=fun _=>False) hle hnd0 (KS_full hfl hK0)
    refine ⟨L,hsub,KS_step (fun k hk hlt'=>⟨?_,hlt',rfl⟩) (fun _ _=>rfl) hK⟩
    rcases hk with hk | hk
    ·exact hk.elim
    ·exact ⟨.inr (hL0 k hk.1),hk.2⟩
   ·obtain ⟨L,hsub,hK⟩:=KS_weak hle hnd0 hK0
    refine ⟨L,hsub,KS_step (fun k hk hlt'=>⟨?_,hlt',rfl⟩) (fun _ _=>rfl) hK⟩
    rcases hk with hk | hk
    ·exact ⟨hk.1.imp (fun h=>⟨hcl,h⟩) id,fun h=>hk.2 (hsub.subset h)⟩
    ·exact ⟨.inr (hL0 k hk.1),hk.2⟩
  have hnd:=hnd0.sublist hsub
  have hL:∀ k∈L,w.heap.size≤k:=fun k hk=>hL0 k (hsub.subset hk)
  have hS:=hs.tr_new hfree hg (bx:=false) (sh:=shn) (t:=sr.t) (x:=y) (u:=sr.t.val cs) (tv:=if sr.tp then tupOf sr.t cs else sr.t.val cs) (L:=L) (A:=resA sr.tp s sr.t) hnd hL (fun hmv=>?_) (fun _=>by
    unfold resA
    cases sr.tp
    ·exact .inr (.inl ⟨rfl,rfl,rfl⟩)
    ·exact .inr (.inr ⟨rfl,rfl,by rw [val_cells (KS_len hK1) (KS_one hK1)]; rfl⟩)) hs0
  ·have:(Dl.u [(s,some (.tr false shn sr.t y))] [] (resA sr.tp s sr.t)).app o.dst st = ⟨st.tm.set s (resA sr.tp s sr.t),st.ob.set s (some (.tr false shn sr.t y))⟩:=by
    simp [Dl.app,hd,St.set,updOb,killD_nil]
   exact hn (.u [(s,some (.tr false shn sr.t y))] [] (resA sr.tp s sr.t)) _ _ _ (this.symm ▸ hS) h2
  ·unfold TrIs
   rw [if_neg (by simp)]
   refine ⟨cs,rfl,?_⟩
   refine KS_step (fun k hk hlt'=>⟨?_,hlt',rfl⟩) (fun _ _=>rfl) hK1
   rcases hk.1 with ⟨hcl,h5⟩ | h5
   ·exact (hmv false k (hcl k h5) (hlt k h5)).1
   ·refine ⟨.inr (Nat.le_trans hsz h5),?_,fun h=>by cases h⟩
    rintro ⟨s',o',h6,h7⟩
    rw [obj_set] at h6
    by_cases es:s = s'
    ·subst es
     simp only [upd,if_true] at h7
     exact hk.2 (owns_tup.1 h7)
    ·simp only [es,false_and,if_false] at h6
     have h7:owns (β s') k:=by simpa [upd,Ne.symm es] using h7
     have:=((hs.ob s' o' h6).lt h7).2
     omega
 cases hdt:dts E c.argTypes.toList (c.args.toList.map st.val) with
 | none =>
  rw [hdt] at hfull
  have hfl:sr.sh.full sr.t = true:=by simpa using hfull
  refine (fin (fun k=>k < w.heap.size) (fun k hk=>hk) (dtsL_V he hs hds) (.inl hfl)).mono ?_
  rintro e1 w1 ⟨v,rfl,hv⟩
  exact hv
 | some ds' =>
  have hdd:∀ {ts:List Nat} {xs:List A} {d1 d2:List Dt},dts E ts xs = some d1→dtsL E st.ob ts xs = some d2→d1 = d2:=by
   intro ts
   induction ts with
   | nil=>intro xs d1 d2 q1 q2; cases xs with
    | nil=>simp only [dts,dtsL,Option.some.injEq] at q1 q2; rw [← q1,← q2]
    | cons _ _=>simp [dts] at q1
   | cons t ts ih=>intro xs d1 d2 q1 q2; cases xs with
    | nil=>simp [dts] at q1
    | cons A xs =>
     simp only [dts,dtsL] at q1 q2
     obtain ⟨e1,k1,q1⟩:=Option.bind_eq_some_iff.1 q1
     obtain ⟨e2,k2,q2⟩:=Option.bind_eq_some_iff.1 q2
     obtain ⟨l1,k3,rfl⟩:=Option.map_eq_some_iff.1 q1
     obtain ⟨l2,k4,rfl⟩:=Option.map_eq_some_iff.1 q2
     have:e1 = e2:=by
      unfold dtL at k2
      cases A <;> first | (simp only at k2; rw [k1] at k2; exact Option.some.inj k2) | (simp [dtOf] at k1)
     rw [this,ih k3 k4]
  obtain rfl:=hdd hdt hds
  have hargs:=dts_V he hs hdt
  refine (fin (fun k=>okD w B okA β st.ob false k∧k < w.heap.size) (fun k hk=>hk.2) (hargs.imp (fun d v hv=>V_step (fun k hk hlt=>⟨⟨hk,hlt⟩,hlt,rfl⟩) hv)) (.inr (fun k hk=>hk.1))).mono ?_
  rintro e1 w1 ⟨v,rfl,hv⟩
  exact hv
/-- The same objects in another list. -/
theorem Sim.obEq (hs:Sim B okA w0 β st a w) {ob':List (Option Ob)} (h:∀ s,St.obj ob' s = St.obj st.ob s):Sim B okA w0 β ⟨st.tm,ob'⟩ a w :=
 hs.change (fun _=>False) ⟨rfl,rfl,rfl,Nat.le_refl _,fun _ _ _=>rfl⟩ hs.len hs.defers (fun s _=>⟨h s,rfl⟩) (fun _ _ h=>h.elim) (fun _ _ h=>h.elim) (fun _ _ _ h=>h.elim) (fun _ _ _ _ _ h=>h.elim) (fun _ _ _ h=>h.elim) (fun _ i A hA=>.inr ⟨hs.tm i A hA,fun _ _ h=>h⟩) (fun _ h=>h.elim)
theorem obj_ext (ob:List (Option Ob)) (s:Nat):St.obj (ob ++ [none]) s = St.obj ob s:=by
 unfold St.obj
 rw [List.getElem?_append]
 split
 ·rfl
 ·rename_i h
  rw [List.getElem?_eq_none (l:=ob) (by omega)]
  rw [List.getElem?_cons]
  split <;> rfl
theorem deep_free (hs:Sim B okA w0 β st a w) {q:Nat} (hq:St.obj st.ob q = none):∀ A∈st.tm,A.deep q = false:=by
 intro A hA
 obtain ⟨i,hi⟩:=List.mem_iff_getElem?.1 hA
 have hr:=hs.tm i A hi
 cases hd:A.deep q with
 | false=>rfl
 | true =>
  exfalso
  have h1:=ksite_site (deep_ksite hd)
  cases A with
  | pt s2 p2 o2 t2=>simp only [Fil.A.site,Option.some.injEq] at h1; subst h1; obtain ⟨u,L,bx,sh,t1,x1,_,h3,_⟩:=hr; rw [hq] at h3; cases h3
  | vw s2 p2 o2 t2=>simp only [Fil.A.site,Option.some.injEq] at h1; subst h1; obtain ⟨u,L,bx,sh,t1,x1,cs,_,h3,_⟩:=hr; rw [hq] at h3; cases h3
  | tp s2 t2=>simp only [Fil.A.site,Option.some.injEq] at h1; subst h1; obtain ⟨u,L,bx,sh,t1,x1,_,h3,_⟩:=hr; rw [hq] at h3; cases h3
  | _=>simp [Fil.A.deep] at hd
theorem srcA_nil {s tid:Nat} {t:Ty} {z:Src t} {ok:Nat→Prop} (h:srcA E st s tid t .nil = some z):∃ cs,KS w ok z.sh t z.y cs []∧z.ups = []∧z.kl = []∧(.slice none 0 0:Value) = t.val cs:=by
 simp only [srcA] at h
 cases t with
 | slice e te =>
  simp only at h
  split at h
  ·rename_i hf
   injection h with h
   subst h
   exact ⟨_,KS_zero w ok hf,rfl,rfl,rfl⟩
  ·cases h
 | _=>cases h
theorem srcD {tid:Nat} {t:Ty} {d:Dt} {A:A} {v:Value} {y:t.T} (hdt:dtOf E tid A = some d) (hv:RepA w (okD w B okA β st.ob) β st.ob A v) (hy:Ty.cast? d.t t d.x = some y):∃ cs,KS w (okD w B okA β st.ob false) .fz t y cs []∧v = t.val cs:=by
 obtain ⟨⟨cs,hK,hev⟩,_⟩:=dtOf_V hdt hv
 clear hv
 clear hdt
 obtain ⟨dt,dfr,dx⟩:=d
 obtain ⟨e1,e2⟩:=cast?_some hy
 simp only at e1 hK hev
 subst e1
 have e2:y = dx:=e2
 subst e2
 exact ⟨cs,⟨rfl,K_mono (fun k hk _=>⟨hk.1,hk.2.1,fun h=>by cases h⟩) hK⟩,hev⟩
theorem storeT_sound (he:EnvOk P E) (hs:Sim B okA w0 β st a w) {t:Nat} {pa x:Operand} (ho:o.op = .store t pa x) {s:Nat} {p:List Stp} {off:Nat} {t':Ty} (hA:st.val pa = .pt s p off t') {Kd:Dl→Option ρ} (h:storeT E o st t s p off (st.val x) Kd = some r)
  (hn:∀ δ β' a' w',Sim B okA w0 β' (δ.app o.dst st) a' w'→Kd δ = some r→next a' w'):o.wp P a w next Q:=by
 unfold storeT at h
 split at h
 case h_2=>cases h
 rename_i _ _ _ bx sh t0 x0 i hd hob hT
 have ht:=he.T _ _ hT
 split at h
 case h_2=>cases h
 rename_i _ _ _ yold s1 z hg hsh hz
 split at h
 case isFalse=>cases h
 rename_i hcond
 split at h
 case h_2=>cases h
 rename_i x' hput
 have h:((p.isEmpty || bx) = true∧Kd (.u (z.ups ++ [(s,some (.tr bx (newSh p sh t0 off i.ty z.sh) t0 x'))]) (s :: z.kl) .und) = some r)∨((p.isEmpty || bx) = false∧Kd (.u (z.ups ++ [(s,some (.tr bx (newSh p sh t0 off i.ty z.sh) t0 x'))]) z.kl .und [s]) = some r):=by
  unfold lt at h
  split at h
  ·rename_i hp; exact .inl ⟨by simp [hp],h⟩
  ·rename_i hp
   split at h
   ·rename_i hb; exact .inl ⟨by simp [hb],h⟩
   ·rename_i hb; exact .inr ⟨by simp only [Bool.or_eq_false_iff]; exact ⟨by simpa using hp,by simpa using hb⟩,h⟩
 have hs2:p = []∨z.sh = s1:=by
  rw [Bool.or_eq_true] at hcond
  rcases hcond with h1 | h1
  ·exact .inl (List.isEmpty_iff.1 h1)
  ·exact .inr (of_decide_eq_true h1)
 have hv:=hs.val pa
 rw [hA] at hv
 have fin:∀ w1,(Instr.storeAt t (a.eval pa) (a.eval x)).run P w = .ok () w1→next a w1→o.wp P a w next Q:=by
  intro w1 h1 h2
  unfold Oper.wp
  have:(execOp a.eval o).run P w = .ok .skip w1:=by simp [execOp,ho,h1]
  rw [this]
  show next (a.put o.dst _) w1
  rw [hd]
  exact h2
 -- a frozen datum, or nil
 have simple:∀ {cs:List Value},a.eval x = i.ty.val cs→KS w (okD w B okA β st.ob false) z.sh i.ty z.y cs []→z.ups = []→z.kl = []→o.wp P a w next Q:=by
  intro cs hev hK hups hkl
  obtain ⟨g,q,cur,e,hvp,hgc,hle,β',hS,hβ⟩:=hs.tr_put hob hv hg hsh hput hs2 hK (by simp) none rfl
  refine fin _ (by rw [hvp]; exact run_storeCells ht hgc hev (KS_len hK) (KS_one hK) hle) ?_
  rcases h with ⟨_,h⟩ | ⟨hc,h⟩
  ·refine hn (.u (z.ups ++ [(s,some (.tr bx (newSh p sh t0 off i.ty z.sh) t0 x'))]) (s :: z.kl) .und) β' _ _ ?_ h
   rw [hups,hkl,hd]
   exact hS
  ·obtain rfl:bx = false:=(Bool.or_eq_false_iff.1 hc).2
   refine hn (.u (z.ups ++ [(s,some (.tr false (newSh p sh t0 off i.ty z.sh) t0 x'))]) z.kl .und [s]) β' _ _ ?_ h
   rw [hups,hkl,hd]
   exact hs.unkill (sh':=newSh p sh t0 off i.ty z.sh) (x':=x') hS hob (by show St.obj (st.ob.set s _) s = _; rw [obj_set]; simp [lt_of_obj hob]) hβ
 have hxv:=hs.val x
 unfold srcA at hz
 split at hz
 ·-- taken out of another tree
  rename_i s' off' tx hA2
  split at hz
  ·cases hz
  rename_i hne'
  split at hz
  case h_2=>cases hz
  rename_i bx' sh' t1 x1 hob'
  split at hz
  case isFalse=>cases hz
  rename_i htx
  subst htx
  split at hz
  case h_2=>cases hz
  rename_i _ _ y s2 hsub hshg
  injection hz with hz
  subst hz
  have hs0:=hs
  replace hs:=hs.obEq (ob':=st.ob ++ [none]) (obj_ext st.ob)
  have hv:=hv.step (w1:=w) (G1:=okD w B okA β (st.ob ++ [none])) (β1:=β) (ob1:=st.ob ++ [none]) (fun fr k hk hlt=>⟨⟨hk.1,fun ⟨s,o,h1,h2⟩=>hk.2.1 ⟨s,o,by rw [← obj_ext]; exact h1,h2⟩,hk.2.2⟩,hlt,rfl⟩) (fun k _=>⟨rfl,Same.of_eq (obj_ext _ _),fun _ _ _ _ _ _ _=>rfl⟩)
  have hxv:=hxv.step (w1:=w) (G1:=okD w B okA β (st.ob ++ [none])) (β1:=β) (ob1:=st.ob ++ [none]) (fun fr k hk hlt=>⟨⟨hk.1,fun ⟨s,o,h1,h2⟩=>hk.2.1 ⟨s,o,by rw [← obj_ext]; exact h1,h2⟩,hk.2.2⟩,hlt,rfl⟩) (fun k _=>⟨rfl,Same.of_eq (obj_ext _ _),fun _ _ _ _ _ _ _=>rfl⟩)
  obtain ⟨ste,hste⟩:∃ ste:St,ste = ⟨st.tm,st.ob ++ [none]⟩:=⟨_,rfl⟩
  have hstm:st.tm = ste.tm:=by rw [hste]
  have hsob:st.ob ++ [none] = ste.ob:=by rw [hste]
  have hob0:=hob
  have hob0':=hob'
  rw [← obj_ext,hsob] at hob hob'
  rw [hsob] at hv hxv
  rw [← hste] at hs
  have hq:ste.ob[st.ob.length]? = some none:=by rw [← hsob]; simp
  generalize hqq:st.ob.length = q at hq
  have hqn:=obj_none hq
  have hqs:q≠s:=by rintro rfl; rw [hob] at hqn; cases hqn
  have hqs':q≠s':=by rintro rfl; rw [hob'] at hqn; cases hqn
  rw [hA2] at hxv
  obtain ⟨u,L,bx2,sh2,t2,x2,cs,hb,hob2,hin,hpc,hev⟩:=hxv
  rw [hob'] at hob2
  obtain ⟨rfl,rfl,rfl,hx⟩:=tr_inj hob2
  have hx:x1 = x2:=hx
  subst hx
  have hcs:cs = ((rootC w bx' u).drop off').take i.ty.sz:=by
   rcases hpc with ⟨_,h5⟩ | ⟨g,q',cur,e,fz,h5,_⟩
   ·exact h5
   ·exact h5.elim
  obtain ⟨L1,hL1,hS⟩:=hs.take hob' hb hsub hshg hq (by have:=lt_of_obj hob0; omega)
  rw [← hcs] at hS
  generalize hβ:upd (upd β s' (tupV u (L.filter fun k=>decide (k∉L1)))) q (tupV (i.ty.val cs) L1) = β1 at hS
  have hβq:β1 q = tupV (i.ty.val cs) L1:=by rw [← hβ]; simp [upd]
  have hβs:β1 s = β s:=by rw [← hβ]; simp [upd,Ne.symm hqs,Ne.symm hne']
  have hlt':=lt_of_obj hob'
  have hql:q < ste.ob.length:=(List.getElem?_eq_some_iff.1 hq).1
  have hO:∀ k,St.obj ((ste.ob.set s' (some (.tr bx' (shP sh' t1 off' i.ty .mv) t1 x1))).set q (some (.tr false s2 i.ty y))) k = if q = k then some (.tr false s2 i.ty y) else if s' = k then some (.tr bx' (shP sh' t1 off' i.ty .mv) t1 x1) else St.obj ste.ob k:=by
   intro k
   rw [obj_set]
   by_cases e1:q = k
   ·subst e1; simp [hql]
   ·simp only [e1,false_and,if_false]
    rw [obj_set]
    by_cases e2:s' = k
    ·subst e2; simp [hlt']
    ·simp [e2]
  have hobS:St.obj ((ste.ob.set s' (some (.tr bx' (shP sh' t1 off' i.ty .mv) t1 x1))).set q (some (.tr false s2 i.ty y))) s = some (.tr bx sh t0 x0):=by
   rw [hO,if_neg hqs,if_neg hne']; exact hob
  have hobQ:St.obj ((ste.ob.set s' (some (.tr bx' (shP sh' t1 off' i.ty .mv) t1 x1))).set q (some (.tr false s2 i.ty y))) q = some (.tr false s2 i.ty y):=by
   rw [hO,if_pos rfl]
  obtain ⟨rc,Lr,hr⟩:=hS.root hobQ hβq
  obtain ⟨hu,rfl⟩:=hr.val rfl
  have hrc:rc = cs:=by
   have h1:=KS_len hr.ks
   have h2:=KS_one hr.ks
   have h3:(i.ty.val cs).cells.toList = rc:=by rw [hu]; exact val_cells h1 h2
   have h4:=hr.root
   simp only [rootC,Bool.false_eq_true,if_false] at h4
   have hcl:cs.length = i.ty.sz∧∀ u∈cs,u.oneCell' = true:=by
    obtain ⟨L3,k3,_⟩:=hs.place (p:=[]) hob' hb (.inl ⟨rfl,hcs⟩) hsub hshg
    exact ⟨KS_len k3,KS_one k3⟩
   rw [← h3]
   exact val_cells hcl.1 hcl.2
  subst hrc
  have hv':RepA w (okD w B okA β1 ((ste.ob.set s' (some (.tr bx' (shP sh' t1 off' i.ty .mv) t1 x1))).set q (some (.tr false s2 i.ty y)))) β1 ((ste.ob.set s' (some (.tr bx' (shP sh' t1 off' i.ty .mv) t1 x1))).set q (some (.tr false s2 i.ty y))) (.pt s p off t') (a.eval pa):=by
   obtain ⟨u3,L3,bx3,sh3,t3,x3,hb3,hob3,hv3⟩:=hv
   rw [hob] at hob3
   obtain ⟨rfl,rfl,rfl,hx⟩:=tr_inj hob3
   exact ⟨u3,L3,bx,sh,t0,x0,by rw [hβs]; exact hb3,hobS,hv3⟩
  obtain ⟨g,q2,cur,e,hvp,hgc,hle,β',hS2,hβ2⟩:=hS.tr_put hobS hv' hg hsh hput hs2 hr.ks hr.nd (some q) ⟨hqs,_,hobQ,⟨_,_,_,rfl⟩,fun k hk=>by rw [hβq]; exact owns_tup.2 hk⟩
  refine fin _ (by rw [hvp]; exact run_storeCells ht hgc hev (KS_len hr.ks) (KS_one hr.ks) hle) ?_
  have hOO:∀ k,St.obj ((st.ob.set s' (some (.tr bx' (shP sh' t1 off' i.ty .mv) t1 x1))).set s (some (.tr bx (newSh p sh t0 off i.ty s2) t0 x'))) k = St.obj ((((ste.ob.set s' (some (.tr bx' (shP sh' t1 off' i.ty .mv) t1 x1))).set q (some (.tr false s2 i.ty y))).set q none).set s (some (.tr bx (newSh p sh t0 off i.ty s2) t0 x'))) k:=by
   intro k
   have hlt0:=lt_of_obj hob0
   have hlt0':=lt_of_obj hob0'
   have hltE:=lt_of_obj hob
   have q1:St.obj ((st.ob.set s' (some (.tr bx' (shP sh' t1 off' i.ty .mv) t1 x1))).set s (some (.tr bx (newSh p sh t0 off i.ty s2) t0 x'))) k = if s = k then some (.tr bx (newSh p sh t0 off i.ty s2) t0 x') else if s' = k then some (.tr bx' (shP sh' t1 off' i.ty .mv) t1 x1) else St.obj st.ob k:=by
    rw [obj_set]
    by_cases e4:s = k
    ·subst e4; simp [hlt0]
    ·simp only [e4,false_and,if_false]
     rw [obj_set]
     by_cases e6:s' = k
     ·subst e6; simp [hlt0']
     ·simp [e6]
   have q2:St.obj ((((ste.ob.set s' (some (.tr bx' (shP sh' t1 off' i.ty .mv) t1 x1))).set q (some (.tr false s2 i.ty y))).set q none).set s (some (.tr bx (newSh p sh t0 off i.ty s2) t0 x'))) k = if s = k then some (.tr bx (newSh p sh t0 off i.ty s2) t0 x') else if q = k then none else if s' = k then some (.tr bx' (shP sh' t1 off' i.ty .mv) t1 x1) else St.obj ste.ob k:=by
    rw [obj_set]
    by_cases e4:s = k
    ·subst e4; simp [hltE]
    ·simp only [e4,false_and,if_false]
     rw [obj_set]
     by_cases e5:q = k
     ·subst e5; simp [hql]
     ·simp only [e5,false_and,if_false]
      rw [hO,if_neg e5]
   have q3:St.obj st.ob k = St.obj ste.ob k:=by rw [← hsob,obj_ext]
   rw [q1]
   refine Eq.trans ?_ q2.symm
   by_cases e4:s = k
   ·simp [e4]
   ·by_cases e5:q = k
    ·subst e5
     simp only [e4,if_false,if_neg (Ne.symm hqs'),if_true,q3]
     exact hqn
    ·simp only [e4,e5,if_false,q3]
  rcases h with ⟨_,h⟩ | ⟨hc,h⟩
  ·refine hn (.u ([(s',some (.tr bx' (shP sh' t1 off' i.ty .mv) t1 x1))] ++ [(s,some (.tr bx (newSh p sh t0 off i.ty s2) t0 x'))]) (s :: [s']) .und) β' _ _ ?_ h
   have e2:killD (s :: (some q).toList) (killD [s'] ste.tm) = killD (s :: [s']) st.tm:=by
    rw [hstm]
    unfold killD
    rw [List.map_map]
    refine List.map_congr_left (fun A hA'=>?_)
    have h5:=deep_free hs hqn A hA'
    simp only [Function.comp_apply,List.any_cons,List.any_nil,Bool.or_false,Bool.false_or,Option.toList]
    have hu:∀ n,Fil.A.deep n .und = false:=fun _=>rfl
    by_cases h6:A.deep s' = true
    ·simp [h6,hu]
    ·simp [h6,h5]
   have e3:(Dl.u ([(s',some (.tr bx' (shP sh' t1 off' i.ty .mv) t1 x1))] ++ [(s,some (.tr bx (newSh p sh t0 off i.ty s2) t0 x'))]) (s :: [s']) .und).app o.dst st = ⟨killD (s :: (some q).toList) (killD [s'] ste.tm),(st.ob.set s' (some (.tr bx' (shP sh' t1 off' i.ty .mv) t1 x1))).set s (some (.tr bx (newSh p sh t0 off i.ty s2) t0 x'))⟩:=by
    rw [e2,hd]; rfl
   rw [e3]
   exact hS2.obEq hOO
  ·obtain rfl:bx = false:=(Bool.or_eq_false_iff.1 hc).2
   refine hn (.u ([(s',some (.tr bx' (shP sh' t1 off' i.ty .mv) t1 x1))] ++ [(s,some (.tr false (newSh p sh t0 off i.ty s2) t0 x'))]) [s'] .und [s]) β' _ _ ?_ h
   have hS3:=hS.unkill (sh':=newSh p sh t0 off i.ty s2) (x':=x') hS2 hobS (by
    rw [obj_set]
    simp only [true_and]
    rw [if_pos (by simpa using lt_of_obj hob)]) hβ2
   have e2:killD (some q).toList (killD [s'] ste.tm) [s] = killD [s'] st.tm [s]:=by
    rw [hstm]
    unfold killD
    rw [List.map_map]
    refine List.map_congr_left (fun A hA'=>?_)
    have h5:=deep_free hs hqn A hA'
    simp only [Function.comp_apply,List.any_cons,List.any_nil,Bool.or_false,Bool.false_or,Option.toList]
    have hu:∀ n,Fil.A.deep n .und = false:=fun _=>rfl
    have hu2:∀ n,Fil.A.deepS n .und = false:=fun _=>rfl
    by_cases h6:A.deep s' = true
    ·simp [h6,hu,hu2]
    ·simp [h6,h5]
   have e3:(Dl.u ([(s',some (.tr bx' (shP sh' t1 off' i.ty .mv) t1 x1))] ++ [(s,some (.tr false (newSh p sh t0 off i.ty s2) t0 x'))]) [s'] .und [s]).app o.dst st = ⟨killD (some q).toList (killD [s'] ste.tm) [s],(st.ob.set s' (some (.tr bx' (shP sh' t1 off' i.ty .mv) t1 x1))).set s (some (.tr false (newSh p sh t0 off i.ty s2) t0 x'))⟩:=by
    rw [e2,hd]; rfl
   rw [e3]
   exact hS3.obEq hOO
 ·-- copied,its rows forgotten
  rename_i s' q' p' off' tx hA2
  split at hz
  case h_2=>cases hz
  rename_i bx' sh' t1 x1 hob'
  split at hz
  case isFalse=>cases hz
  rename_i htx
  subst htx
  split at hz
  case h_2=>cases hz
  rename_i _ _ y s1' hget' hsh'
  split at hz
  case isFalse=>cases hz
  rename_i hfl
  injection hz with hz
  subst hz
  rw [hA2] at hxv
  obtain ⟨u,L,bx2,sh2,t2,x2,cs,hb,hob2,hin,hpc,hev⟩:=hxv
  rw [hob'] at hob2
  obtain ⟨rfl,rfl,rfl,_⟩:=tr_inj hob2
  obtain ⟨L1,k1,_⟩:=hs.place hob' hb hpc hget' hsh'
  exact simple hev (KS_flatSh hfl k1) rfl rfl
 ·-- nil
  rename_i hA2
  rw [hA2] at hxv
  have hxv:a.eval x = .slice none 0 0:=hxv
  obtain ⟨cs,h1,h2,h3,h4⟩:=srcA_nil (w:=w) (ok:=okD w B okA β st.ob false) (E:=E) (st:=st) (s:=s) (tid:=t) (t:=i.ty) (z:=z) (by simpa only [srcA] using hz)
  exact simple (hxv.trans h4) h1 h2 h3
 ·split at hz
  case h_2=>cases hz
  rename_i d hdt
  split at hz
  case h_2=>cases hz
  rename_i y hy
  injection hz with hz
  subst hz
  obtain ⟨cs,h1,h2⟩:=srcD hdt hxv hy
  exact simple h2 h1 rfl rfl
end
end Go.Fil
