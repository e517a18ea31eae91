/- FilBase. -/
import Derived.Test.YtofllafpneanoaaGreatDoorFil2
import Derived.Laws.AppendOwn
/- Trees of rows of one's own: cells that say a datum, and the blocks that belong to it alone. -/
namespace Go.Fil
open Go.RowKit
set_option linter.unusedVariables false
set_option linter.unusedSimpArgs false
theorem cast?_some {a b:Ty} {x:a.T} {y:b.T} (h:Ty.cast? a b x = some y):∃ e:a = b,y = e ▸ x:=by
 unfold Ty.cast? at h
 split at h
 ·rename_i e; exact ⟨e,(Option.some.inj h).symm⟩
 ·cases h
def Plain (w:World) (k:Nat):Prop:=∃ cs e,w.heap[k]? = some (.cells cs e (0,0))
theorem flat_set {sz:Nat}:∀ {css:List (List Value)} (j:Nat) {c:List Value},(∀ c∈css,c.length = sz)→j < css.length→c.length = sz→(css.set j c).flatten = css.flatten.take (j * sz) ++ c ++ css.flatten.drop (j * sz + sz)
 | [],_,_,_,h,_=>by simp at h
 | d :: css,0,c,h,_,hc=>by
  have:=h d (by simp)
  simp [List.drop_append,this]
 | d :: css,j + 1,c,h,hj,hc=>by
  have h1:=h d (by simp)
  have ih:=flat_set (css:=css) j (c:=c) (fun x hx=>h x (by simp [hx])) (by simpa using hj) hc
  simp only [List.set_cons_succ,List.flatten_cons,ih]
  have e1:d.take ((j + 1) * sz) = d:=List.take_of_length_le (by rw [h1,Nat.succ_mul]; omega)
  have e2:d.drop ((j + 1) * sz + sz) = []:=List.drop_eq_nil_of_le (by rw [h1,Nat.succ_mul]; omega)
  rw [List.take_append,List.drop_append,e1,e2,h1]
  rw [show (j + 1) * sz - sz = j * sz by rw [Nat.succ_mul]; omega,show (j + 1) * sz + sz - sz = j * sz + sz by rw [Nat.succ_mul]; omega]
  simp
theorem flat_replicate {sz:Nat} {c:List Value} (hc:c.length = sz) (h0:0 < sz):∀ m j,j < m * sz→(List.replicate m c).flatten[j]? = c[j % sz]?
 | 0,j,h=>by simp at h
 | m + 1,j,h=>by
  rw [List.replicate_succ,List.flatten_cons]
  by_cases hj:j < sz
  ·rw [List.getElem?_append_left (by omega),Nat.mod_eq_of_lt hj]
  ·rw [List.getElem?_append_right (by omega),hc,flat_replicate hc h0 m (j - sz) (by rw [Nat.succ_mul] at h; omega)]
   congr 1
   rw [Nat.mod_eq_sub_mod (by omega:sz≤j)]
theorem made_flat {z:Array Value} {sz:Nat} (hz:z.size = sz) (h0:0 < sz) (m:Nat):(madeCells z (m * sz)).toList = (List.replicate m z.toList).flatten:=by
 have hl:(List.replicate m z.toList).flatten.length = m * sz:=by
  rw [flat_length (sz:=sz) (by intro c hc; rw [(List.mem_replicate.1 hc).2]; simpa using hz)]; simp
 apply List.ext_getElem?
 intro j
 by_cases hj:j < m * sz
 ·rw [flat_replicate (by simpa using hz) h0 m j hj]
  have hlt:j % sz < z.size:=by rw [hz]; exact Nat.mod_lt _ h0
  simp [madeCells,hj,hz,hlt]
  rw [getElem!_pos z (j % sz) hlt]; exact (Array.getElem?_eq_getElem hlt).symm
 ·rw [List.getElem?_eq_none (by simp [size_madeCells]; omega),List.getElem?_eq_none (by omega)]
theorem splice_parts {α:Type} (A B C D E F ds:List α) (hk:ds.length = C.length) :
  ((A ++ (B ++ (C ++ (D ++ (E ++ F))))).take (A.length + B.length) ++ ds ++ (A ++ (B ++ (C ++ (D ++ (E ++ F))))).drop (A.length + B.length + C.length)).take (A.length + (B.length + C.length + D.length) + E.length) = A ++ (B ++ ds ++ D) ++ E:=by
 have h1:(A ++ (B ++ (C ++ (D ++ (E ++ F))))).take (A.length + B.length) = A ++ B:=by
  rw [← List.append_assoc,List.take_left' (by simp)]
 have h2:(A ++ (B ++ (C ++ (D ++ (E ++ F))))).drop (A.length + B.length + C.length) = D ++ (E ++ F):=by
  rw [← List.append_assoc,← List.append_assoc,List.drop_left' (by simp; omega)]
 rw [h1,h2]
 have:A ++ B ++ ds ++ (D ++ (E ++ F)) = (A ++ (B ++ ds ++ D) ++ E) ++ F:=by simp
 rw [this,List.take_left' (by simp; omega)]
theorem cut5 {α:Type} (L:List α) (m off k sz N:Nat) (h1:off + k≤sz) (h2:m + sz≤N) (h3:N≤L.length):∃ A B C D E F,L = A ++ (B ++ (C ++ (D ++ (E ++ F))))∧A.length = m∧B.length = off∧C.length = k∧D.length = sz - off - k∧E.length = N - m - sz:=by
 refine ⟨L.take m,(L.drop m).take off,(L.drop (m + off)).take k,(L.drop (m + off + k)).take (sz - off - k),(L.drop (m + sz)).take (N - m - sz),L.drop N,?_,?_,?_,?_,?_,?_⟩
 ·have e1:(L.drop (m + sz)).take (N - m - sz) ++ L.drop N = L.drop (m + sz):=by
   have:=List.take_append_drop (N - m - sz) (L.drop (m + sz))
   rw [List.drop_drop,show m + sz + (N - m - sz) = N by omega] at this
   exact this
  have e2:(L.drop (m + off + k)).take (sz - off - k) ++ L.drop (m + sz) = L.drop (m + off + k):=by
   have:=List.take_append_drop (sz - off - k) (L.drop (m + off + k))
   rw [List.drop_drop,show m + off + k + (sz - off - k) = m + sz by omega] at this
   exact this
  have e3:(L.drop (m + off)).take k ++ L.drop (m + off + k) = L.drop (m + off):=by
   have:=List.take_append_drop k (L.drop (m + off))
   rwa [List.drop_drop] at this
  have e4:(L.drop m).take off ++ L.drop (m + off) = L.drop m:=by
   have:=List.take_append_drop off (L.drop m)
   rwa [List.drop_drop] at this
  rw [e1,e2,e3,e4,List.take_append_drop]
 all_goals (simp; omega)
theorem splice_take {α:Type} (L ds:List α) (m off k sz N:Nat) (hk:ds.length = k) (h1:off + k≤sz) (h2:m + sz≤N) (h3:N≤L.length) :
  (L.take (m + off) ++ ds ++ L.drop (m + off + k)).take N = (L.take N).take m ++ ((((L.take N).drop m).take sz).take off ++ ds ++ (((L.take N).drop m).take sz).drop (off + k)) ++ (L.take N).drop (m + sz):=by
 obtain ⟨A,B,C,D,E,F,rfl,hA,hB,hC,hD,hE⟩:=cut5 L m off k sz N h1 h2 h3
 have hN:N = A.length + (B.length + C.length + D.length) + E.length:=by omega
 have hs:sz = B.length + C.length + D.length:=by omega
 subst hA hB hC
 have:=splice_parts A B C D E F ds hk
 have e0:(A ++ (B ++ (C ++ (D ++ (E ++ F))))).take N = A ++ ((B ++ C ++ D) ++ E):=by
  have:A ++ (B ++ (C ++ (D ++ (E ++ F)))) = (A ++ ((B ++ C ++ D) ++ E)) ++ F:=by simp
  rw [this,List.take_left' (by simp; omega)]
 have e1:(B ++ C ++ D).take B.length = B:=by rw [List.append_assoc,List.take_left' rfl]
 have e2:(B ++ C ++ D).drop (B.length + C.length) = D:=by rw [List.drop_left' (by simp)]
 have e3:(A ++ ((B ++ C ++ D) ++ E)).drop (A.length + sz) = E:=by
  rw [← List.append_assoc,List.drop_left' (by simp; omega)]
 have f1:(A ++ ((B ++ C ++ D) ++ E)).take A.length = A:=List.take_left' rfl
 have f2:(A ++ ((B ++ C ++ D) ++ E)).drop A.length = (B ++ C ++ D) ++ E:=List.drop_left' rfl
 have f3:((B ++ C ++ D) ++ E).take sz = B ++ C ++ D:=List.take_left' (by simp; omega)
 have g:((A ++ (B ++ (C ++ (D ++ (E ++ F))))).take (A.length + B.length) ++ ds ++ (A ++ (B ++ (C ++ (D ++ (E ++ F))))).drop (A.length + B.length + C.length)).take N = A ++ (B ++ ds ++ D) ++ E:=by rw [hN]; exact this
 rw [g,e0,f1,f2,f3,e1,e2,e3]
theorem addT (g m n:Nat):(⟨g,m,none⟩:Addr).add n = ⟨g,m + n,none⟩:=by
 unfold Addr.add; split <;> simp_all
theorem at_rowT {w:World} {g e:Nat} {cs:Array Value} {fr:Nat × Nat} (h:w.heap[g]? = some (.cells cs e fr)) (off:Nat):At w ⟨g,off,none⟩ (cs.toList.drop off):=fun j u hu=>by
 rw [addT]
 simp only [World.cell?,h]
 simpa using hu
def KS (w:World) (ok:Nat→Prop):Sh→(t:Ty)→t.T→List Value→List Nat→Prop
 | .fz,t,x,cs,L=>L = []∧K w ok t x cs
 | .mv,t,_,cs,L=>L = []∧cs.length = t.sz∧∀ u∈cs,u.oneCell' = true
 | .ow s,.slice e t,xs,cs,L=>∃ (v:Value) (rs:List (List Value × List Nat)),cs = [v]∧w.ownsRow 0 e t.sz v (List.length xs) (rs.map Prod.fst).flatten∧All2 (fun x r=>KS w ok s t x r.1 r.2) xs rs∧L = v.ownBlock.toList ++ (rs.map Prod.snd).flatten
 | .pr a b,.pair t u,x,cs,L=>∃ c1 c2 L1 L2,cs = c1 ++ c2∧L = L1 ++ L2∧KS w ok a t x.1 c1 L1∧KS w ok b u x.2 c2 L2
 | .ct s n,.slice e t,xs,cs,L=>∃ (v:Value) (rs:List (List Value × List Nat)),cs = [v]∧w.ownsRow 0 e t.sz v (List.length xs) (rs.map Prod.fst).flatten∧All2 (fun (x:t.T × Nat) r=>if x.2 < n.toNat then r.2 = []∧r.1.length = t.sz∧(∀ u∈r.1,u.oneCell' = true) else KS w ok s t x.1 r.1 r.2) (List.zipIdx xs) rs∧L = v.ownBlock.toList ++ (rs.map Prod.snd).flatten
 | _,_,_,_,_=>False
section
variable {w w':World} {ok ok':Nat→Prop}
theorem row_one {e sz n:Nat} {v:Value} {xs:List Value} (h:w.ownsRow 0 e sz v n xs):v.oneCell' = true:=by
 rcases h.2 with ⟨rfl,_⟩ | ⟨g,cap,cur,rfl,_⟩ <;> rfl
theorem KS_len:∀ {s:Sh} {t:Ty} {x:t.T} {cs:List Value} {L:List Nat},KS w ok s t x cs L→cs.length = t.sz
 | .fz,t,x,cs,L,h=>K_len h.2
 | .mv,t,x,cs,L,h=>h.2.1
 | .ow s,.slice e t,xs,cs,L,h=>by obtain ⟨v,rs,rfl,_⟩:=h; rfl
 | .pr a b,.pair t u,x,cs,L,h=>by
  obtain ⟨c1,c2,L1,L2,rfl,rfl,h1,h2⟩:=h
  simp [Ty.sz,KS_len h1,KS_len h2]
 | .ct s n,.slice e t,xs,cs,L,h=>by obtain ⟨v,rs,rfl,_⟩:=h; rfl
theorem KS_one:∀ {s:Sh} {t:Ty} {x:t.T} {cs:List Value} {L:List Nat},KS w ok s t x cs L→∀ u∈cs,u.oneCell' = true
 | .fz,t,x,cs,L,h=>K_one h.2
 | .mv,t,x,cs,L,h=>h.2.2
 | .ow s,.slice e t,xs,cs,L,h=>by
  obtain ⟨v,rs,rfl,hr,_⟩:=h
  intro u hu
  simp only [List.mem_singleton] at hu
  subst hu
  exact row_one hr
 | .pr a b,.pair t u,x,cs,L,h=>by
  obtain ⟨c1,c2,L1,L2,rfl,rfl,h1,h2⟩:=h
  intro u hu
  rcases List.mem_append.1 hu with hu | hu
  ·exact KS_one h1 u hu
  ·exact KS_one h2 u hu
 | .ct s n,.slice e t,xs,cs,L,h=>by
  obtain ⟨v,rs,rfl,hr,_⟩:=h
  intro u hu
  simp only [List.mem_singleton] at hu
  subst hu
  exact row_one hr
theorem All2.mem {α β:Type} {R:α→β→Prop}:∀ {xs:List α} {ys:List β},All2 R xs ys→∀ y∈ys,∃ x∈xs,R x y
 | [],[],_,y,hy=>by simp at hy
 | x :: xs,z :: ys,h,y,hy=>by
  rcases List.mem_cons.1 hy with rfl | hy
  ·exact ⟨x,by simp,h.1⟩
  ·obtain ⟨x',hx,hr⟩:=All2.mem h.2 y hy
   exact ⟨x',by simp [hx],hr⟩
theorem row_blk {e sz n:Nat} {v:Value} {xs:List Value} (h:w.ownsRow 0 e sz v n xs) {k:Nat} (hk:k∈v.ownBlock.toList):k < w.heap.size∧Plain w k:=by
 rcases h.2 with ⟨rfl,_⟩ | ⟨g,cap,cur,rfl,_,hg,_⟩
 ·simp [Value.ownBlock] at hk
 ·simp only [Value.ownBlock,Option.toList,List.mem_singleton] at hk
  subst hk
  exact ⟨(Array.getElem?_eq_some_iff.1 hg).1,cur,e,hg⟩
theorem KS_lt:∀ {s:Sh} {t:Ty} {x:t.T} {cs:List Value} {L:List Nat},KS w ok s t x cs L→∀ k∈L,k < w.heap.size∧Plain w k
 | .fz,t,x,cs,L,h,k,hk=>by rw [h.1] at hk; simp at hk
 | .mv,t,x,cs,L,h,k,hk=>by rw [h.1] at hk; simp at hk
 | .ow s,.slice e t,xs,cs,L,h,k,hk=>by
  obtain ⟨v,rs,rfl,hr,ha,rfl⟩:=h
  rcases List.mem_append.1 hk with hk | hk
  ·exact row_blk hr hk
  ·obtain ⟨l,hl,hk⟩:=List.mem_flatten.1 hk
   obtain ⟨r,hr2,rfl⟩:=List.mem_map.1 hl
   obtain ⟨x,_,hx⟩:=ha.mem r hr2
   exact KS_lt hx k hk
 | .pr a b,.pair t u,x,cs,L,h,k,hk=>by
  obtain ⟨c1,c2,L1,L2,rfl,rfl,h1,h2⟩:=h
  rcases List.mem_append.1 hk with hk | hk
  ·exact KS_lt h1 k hk
  ·exact KS_lt h2 k hk
 | .ct s n,.slice e t,xs,cs,L,h,k,hk=>by
  obtain ⟨v,rs,rfl,hr,ha,rfl⟩:=h
  rcases List.mem_append.1 hk with hk | hk
  ·exact row_blk hr hk
  ·obtain ⟨l,hl,hk⟩:=List.mem_flatten.1 hk
   obtain ⟨r,hr2,rfl⟩:=List.mem_map.1 hl
   obtain ⟨x,_,hx⟩:=ha.mem r hr2
   by_cases hc:x.2 < n.toNat
   ·rw [if_pos hc] at hx
    rw [hx.1] at hk
    simp at hk
   ·rw [if_neg hc] at hx
    exact KS_lt hx k hk
theorem row_step {e sz n:Nat} {v:Value} {xs:List Value} (h:w.ownsRow 0 e sz v n xs) (hb:∀ k∈v.ownBlock.toList,w'.heap[k]? = w.heap[k]?):w'.ownsRow 0 e sz v n xs:=by
 refine ⟨h.1,?_⟩
 rcases h.2 with hn | ⟨g,cap,cur,rfl,h0,hg,rest⟩
 ·exact .inl hn
 ·exact .inr ⟨g,cap,cur,rfl,h0,by rw [hb g (by simp [Value.ownBlock])]; exact hg,rest⟩
theorem All2.imp_ys {α β:Type} {R S:α→β→Prop}:∀ {xs:List α} {ys:List β},(∀ x,∀ y∈ys,R x y→S x y)→All2 R xs ys→All2 S xs ys
 | [],[],_,_=>trivial
 | x :: xs,y :: ys,h,hh=>⟨h _ _ (by simp) hh.1,All2.imp_ys (fun x y hy=>h x y (by simp [hy])) hh.2⟩
/-- Another world that has the blocks. -/
theorem KS_step (hm:∀ k,ok k→k < w.heap.size→ok' k∧k < w'.heap.size∧w'.heap[k]? = w.heap[k]?):∀ {s:Sh} {t:Ty} {x:t.T} {cs:List Value} {L:List Nat},(∀ k∈L,w'.heap[k]? = w.heap[k]?)→KS w ok s t x cs L→KS w' ok' s t x cs L
 | .fz,t,x,cs,L,hL,h=>⟨h.1,K_step hm h.2⟩
 | .mv,t,x,cs,L,hL,h=>h
 | .ow s,.slice e t,xs,cs,L,hL,h=>by
  obtain ⟨v,rs,rfl,hr,ha,rfl⟩:=h
  refine ⟨v,rs,rfl,row_step hr (fun k hk=>hL k (List.mem_append.2 (.inl hk))),?_,rfl⟩
  refine All2.imp_ys (fun x r hr' hx=>KS_step hm (fun k hk=>hL k (List.mem_append.2 (.inr ?_))) hx) ha
  exact List.mem_flatten.2 ⟨r.2,List.mem_map.2 ⟨r,hr',rfl⟩,hk⟩
 | .pr a b,.pair t u,x,cs,L,hL,h=>by
  obtain ⟨c1,c2,L1,L2,rfl,rfl,h1,h2⟩:=h
  exact ⟨c1,c2,L1,L2,rfl,rfl,KS_step hm (fun k hk=>hL k (List.mem_append.2 (.inl hk))) h1,KS_step hm (fun k hk=>hL k (List.mem_append.2 (.inr hk))) h2⟩
 | .ct s n,.slice e t,xs,cs,L,hL,h=>by
  obtain ⟨v,rs,rfl,hr,ha,rfl⟩:=h
  refine ⟨v,rs,rfl,row_step hr (fun k hk=>hL k (List.mem_append.2 (.inl hk))),?_,rfl⟩
  refine All2.imp_ys (fun x r hr' hx=>?_) ha
  by_cases hc:x.2 < n.toNat
  ·rw [if_pos hc] at hx ⊢
   exact hx
  ·rw [if_neg hc] at hx ⊢
   exact KS_step hm (fun k hk=>hL k (List.mem_append.2 (.inr (List.mem_flatten.2 ⟨r.2,List.mem_map.2 ⟨r,hr',rfl⟩,hk⟩)))) hx
/-- Read as data. -/
theorem KS_K:∀ {s:Sh} {t:Ty} {x:t.T} {cs:List Value} {L:List Nat},s.whole = true→KS w ok s t x cs L→K w (fun k=>ok k∨k∈L) t x cs
 | .fz,t,x,cs,L,_,h=>K_mono (fun k hk _=>.inl hk) h.2
 | .mv,t,x,cs,L,hw,h=>by simp [Sh.whole] at hw
 | .ow s,.slice e t,xs,cs,L,hw,h=>by
  obtain ⟨v,rs,rfl,hr,ha,rfl⟩:=h
  have hel:∀ r∈rs,∀ k∈r.2,k∈v.ownBlock.toList ++ (rs.map Prod.snd).flatten:=fun r hr k hk=>List.mem_append.2 (.inr (List.mem_flatten.2 ⟨r.2,List.mem_map.2 ⟨r,hr,rfl⟩,hk⟩))
  have hcs:All2 (fun x c=>K w (fun k=>ok k∨k∈v.ownBlock.toList ++ (rs.map Prod.snd).flatten) t x c) xs (rs.map Prod.fst):=by
   have:∀ {xs:List t.T} {ys:List (List Value × List Nat)},(∀ r∈ys,∀ k∈r.2,k∈v.ownBlock.toList ++ (rs.map Prod.snd).flatten)→All2 (fun x r=>KS w ok s t x r.1 r.2) xs ys→All2 (fun x c=>K w (fun k=>ok k∨k∈v.ownBlock.toList ++ (rs.map Prod.snd).flatten) t x c) xs (ys.map Prod.fst):=by
    intro xs
    induction xs with
    | nil=>intro ys _ h; cases ys with
     | nil=>trivial
     | cons r ys=>exact h.elim
    | cons x xs ih=>intro ys hm h; cases ys with
     | nil=>exact h.elim
     | cons r ys=>exact ⟨K_mono (fun k hk _=>hk.imp id (hm r (by simp) k)) (KS_K (by simpa [Sh.whole] using hw) h.1),ih (fun r hr=>hm r (by simp [hr])) h.2⟩
   exact this hel ha
  rcases hr.2 with ⟨rfl,hn⟩ | ⟨g,cap,cur,rfl,_,hg,h1,h2,h3,h4⟩
  ·refine ⟨none,0,_,?_,?_,?_,hcs,fun hp=>absurd hp (by omega)⟩
   ·rw [hn]
   ·omega
   ·omega
  ·refine ⟨_,cap,_,rfl,h1,by omega,hcs,fun _=>⟨_,rfl,.inr (by simp [Value.ownBlock]),(Array.getElem?_eq_some_iff.1 hg).1,?_⟩⟩
   intro j u hu
   rw [← h4] at hu
   rw [List.getElem?_take] at hu
   split at hu
   ·exact at_rowT hg 0 j u (by simpa using hu)
   ·cases hu
 | .pr a b,.pair t u,x,cs,L,hw,h=>by
  obtain ⟨c1,c2,L1,L2,rfl,rfl,h1,h2⟩:=h
  simp only [Sh.whole,Bool.and_eq_true] at hw
  exact ⟨c1,c2,rfl,K_mono (fun k hk _=>hk.imp id (fun h=>List.mem_append.2 (.inl h))) (KS_K hw.1 h1),K_mono (fun k hk _=>hk.imp id (fun h=>List.mem_append.2 (.inr h))) (KS_K hw.2 h2)⟩
 | .ct s n,t,x,cs,L,hw,h=>by simp [Sh.whole] at hw
end
end Go.Fil
/- Places in trees. -/
namespace Go.Fil
open Go.RowKit
set_option linter.unusedVariables false
set_option linter.unusedSimpArgs false
section
variable {w w':World} {ok ok':Nat→Prop}
theorem KS_split {s:Sh} {a b:Ty} {x:(Ty.pair a b).T} {cs:List Value} {L:List Nat} (h:KS w ok s (.pair a b) x cs L):∃ c1 c2 L1 L2,cs = c1 ++ c2∧L = L1 ++ L2∧KS w ok s.l a x.1 c1 L1∧KS w ok s.r b x.2 c2 L2:=by
 cases s with
 | fz =>
  obtain ⟨rfl,c1,c2,rfl,h1,h2⟩:=h
  exact ⟨c1,c2,[],[],rfl,rfl,⟨rfl,h1⟩,⟨rfl,h2⟩⟩
 | mv =>
  obtain ⟨rfl,h1,h2⟩:=h
  have h1:cs.length = a.sz + b.sz:=h1
  refine ⟨cs.take a.sz,cs.drop a.sz,[],[],(List.take_append_drop _ _).symm,rfl,⟨rfl,by simp; omega,fun u hu=>h2 u (List.mem_of_mem_take hu)⟩,⟨rfl,by simp; omega,fun u hu=>h2 u (List.mem_of_mem_drop hu)⟩⟩
 | ow s=>exact h.elim
 | ct s n=>exact h.elim
 | pr sa sb=>exact h
/-- A part in its place; and what it is to put another one there. -/
theorem KS_focus {t:Ty}:∀ {t0:Ty} {s:Sh} {x:t0.T} {off:Nat} {y:t.T} {s1:Sh} {cs:List Value} {L:List Nat},sub t0 x off t = some y→shG s t0 off t = some s1→KS w ok s t0 x cs L →
  ∃ La L' Lb,L = La ++ (L' ++ Lb)∧off + t.sz≤t0.sz∧KS w ok s1 t y ((cs.drop off).take t.sz) L' ∧
   ∀ {w':World} {ok':Nat→Prop} {y':t.T} {s2:Sh} {cy:List Value} {L2:List Nat} {x':t0.T},(∀ k,ok k→k < w.heap.size→ok' k∧k < w'.heap.size∧w'.heap[k]? = w.heap[k]?)→(∀ k∈La ++ Lb,w'.heap[k]? = w.heap[k]?) →
    put t0 x off t y' = some x'→KS w' ok' s2 t y' cy L2→KS w' ok' (shP s t0 off t s2) t0 x' (cs.take off ++ cy ++ cs.drop (off + t.sz)) (La ++ (L2 ++ Lb)):=by
 have base:∀ {t0:Ty} {s:Sh} {x:t0.T} {off:Nat} {y:t.T} {s1:Sh} {cs:List Value} {L:List Nat},(if off = 0 then Ty.cast? t0 t x else none) = some y→(if off = 0∧t0 = t then some s else none) = some s1→KS w ok s t0 x cs L →
  ∃ La L' Lb,L = La ++ (L' ++ Lb)∧off + t.sz≤t0.sz∧KS w ok s1 t y ((cs.drop off).take t.sz) L' ∧
   ∀ {w':World} {ok':Nat→Prop} {y':t.T} {s2:Sh} {cy:List Value} {L2:List Nat} {x':t0.T},(∀ k,ok k→k < w.heap.size→ok' k∧k < w'.heap.size∧w'.heap[k]? = w.heap[k]?)→(∀ k∈La ++ Lb,w'.heap[k]? = w.heap[k]?) →
    (if off = 0 then Ty.cast? t t0 y' else none) = some x'→KS w' ok' s2 t y' cy L2→KS w' ok' s2 t0 x' (cs.take off ++ cy ++ cs.drop (off + t.sz)) (La ++ (L2 ++ Lb)):=by
  intro t0 s x off y s1 cs L h hs hK
  split at h
  ·obtain ⟨rfl,rfl⟩:=cast?_some h
   rename_i e; subst e
   rw [if_pos ⟨rfl,rfl⟩] at hs
   injection hs with hs; subst hs
   have hl:=KS_len hK
   refine ⟨[],L,[],by simp,by omega,by rw [← hl]; simpa using hK,?_⟩
   intro w' ok' y' s2 cy L2 x' _ _ hp hy
   rw [if_pos rfl] at hp
   obtain ⟨e,rfl⟩:=cast?_some hp
   rw [List.drop_eq_nil_of_le (by omega)]
   simpa using hy
  ·cases h
 intro t0
 induction t0 with
 | pair a b iha ihb =>
  intro s x off y s1 cs L h hs hK
  simp only [sub] at h
  simp only [shG] at hs
  by_cases e:off = 0∧Ty.pair a b = t
  ·rw [if_pos e] at h hs
   obtain ⟨La,L',Lb,h1,h2,h3,h4⟩:=base (t0:=.pair a b) (x:=x) (off:=off) (s:=s) (s1:=s1) (by rw [if_pos e.1]; exact h) (by rw [if_pos e]; exact hs) hK
   refine ⟨La,L',Lb,h1,h2,h3,?_⟩
   intro w' ok' y' s2 cy L2 x' g1 g2 hp hy
   simp only [shP,if_pos e]
   simp only [put,if_pos e] at hp
   exact h4 g1 g2 (by rw [if_pos e.1]; exact hp) hy
  ·rw [if_neg e] at h hs
   obtain ⟨c1,c2,L1,L2,rfl,rfl,k1,k2⟩:=KS_split hK
   have hl:=KS_len k1
   have hl2:=KS_len k2
   by_cases hlt:off < a.sz
   ·rw [if_pos hlt] at h hs
    obtain ⟨La,L',Lb,rfl,h2,h3,h4⟩:=iha h hs k1
    refine ⟨La,L',Lb ++ L2,by simp,by simp only [Ty.sz]; omega,?_,?_⟩
    ·rw [List.drop_append_of_le_length (by omega),List.take_append_of_le_length (by simp; omega)]
     exact h3
    ·intro w' ok' y' s2 cy L3 x' g1 g2 hp hy
     simp only [shP,if_neg e,if_pos hlt]
     simp only [put,if_neg e,if_pos hlt] at hp
     obtain ⟨z,hz,rfl⟩:=Option.map_eq_some_iff.1 hp
     have:=h4 g1 (fun k hk=>g2 k (by simp only [List.mem_append] at hk ⊢; rcases hk with hk | hk <;> simp [hk])) hz hy
     refine ⟨_,c2,La ++ (L3 ++ Lb),L2,?_,by simp,this,KS_step g1 (fun k hk=>g2 k (by simp [hk])) k2⟩
     rw [List.take_append_of_le_length (by omega),List.drop_append_of_le_length (by omega)]
     simp
   ·rw [if_neg hlt] at h hs
    obtain ⟨La,L',Lb,rfl,h2,h3,h4⟩:=ihb h hs k2
    refine ⟨L1 ++ La,L',Lb,by simp,by simp only [Ty.sz]; omega,?_,?_⟩
    ·rw [List.drop_append,List.drop_eq_nil_of_le (by omega),hl]
     simpa using h3
    ·intro w' ok' y' s2 cy L3 x' g1 g2 hp hy
     simp only [shP,if_neg e,if_neg hlt]
     simp only [put,if_neg e,if_neg hlt] at hp
     obtain ⟨z,hz,rfl⟩:=Option.map_eq_some_iff.1 hp
     have:=h4 g1 (fun k hk=>g2 k (by simp only [List.mem_append] at hk ⊢; rcases hk with hk | hk <;> simp [hk])) hz hy
     refine ⟨c1,_,L1,La ++ (L3 ++ Lb),?_,by simp,KS_step g1 (fun k hk=>g2 k (by simp [hk])) k1,this⟩
     rw [List.take_append,List.drop_append,List.take_of_length_le (by omega),List.drop_eq_nil_of_le (by omega),hl]
     simp [show off + t.sz - a.sz = off - a.sz + t.sz by omega]
 | int k=>intro s x off y s1 cs L h hs hK; obtain ⟨La,L',Lb,h1,h2,h3,h4⟩:=base (by simpa [sub] using h) (by simpa [shG] using hs) hK; exact ⟨La,L',Lb,h1,h2,h3,fun g1 g2 hp hy=>by simpa [shP] using h4 g1 g2 (by simpa [put] using hp) hy⟩
 | bool=>intro s x off y s1 cs L h hs hK; obtain ⟨La,L',Lb,h1,h2,h3,h4⟩:=base (by simpa [sub] using h) (by simpa [shG] using hs) hK; exact ⟨La,L',Lb,h1,h2,h3,fun g1 g2 hp hy=>by simpa [shP] using h4 g1 g2 (by simpa [put] using hp) hy⟩
 | str=>intro s x off y s1 cs L h hs hK; obtain ⟨La,L',Lb,h1,h2,h3,h4⟩:=base (by simpa [sub] using h) (by simpa [shG] using hs) hK; exact ⟨La,L',Lb,h1,h2,h3,fun g1 g2 hp hy=>by simpa [shP] using h4 g1 g2 (by simpa [put] using hp) hy⟩
 | slice e t ih=>intro s x off y s1 cs L h hs hK; obtain ⟨La,L',Lb,h1,h2,h3,h4⟩:=base (by simpa [sub] using h) (by simpa [shG] using hs) hK; exact ⟨La,L',Lb,h1,h2,h3,fun g1 g2 hp hy=>by simpa [shP] using h4 g1 g2 (by simpa [put] using hp) hy⟩
 | unit=>intro s x off y s1 cs L h hs hK; obtain ⟨La,L',Lb,h1,h2,h3,h4⟩:=base (by simpa [sub] using h) (by simpa [shG] using hs) hK; exact ⟨La,L',Lb,h1,h2,h3,fun g1 g2 hp hy=>by simpa [shP] using h4 g1 g2 (by simpa [put] using hp) hy⟩
end
end Go.Fil
/- Places behind rows. -/
namespace Go.Fil
open Go.RowKit
set_option linter.unusedVariables false
set_option linter.unusedSimpArgs false
/-- Where the place is: block and cell. -/
def PlAt (w:World) (L:List Nat):List Value→List Stp→Nat→Nat→Nat→Prop
 | _,[],_,_,_=>False
 | cs,[s],off,g,q=>g∈L∧∃ n c,cs[s.o]? = some (.slice (some ⟨g,0,none⟩) n c)∧0≤s.i∧s.i.toNat < n∧q = s.i.toNat * s.te.sz + off
 | cs,s :: s' :: p,off,g,q=>∃ g1 n c cur e fz,g1∈L∧cs[s.o]? = some (.slice (some ⟨g1,0,none⟩) n c)∧0≤s.i∧s.i.toNat < n∧w.heap[g1]? = some (.cells cur e fz)∧PlAt w L ((cur.toList.drop (s.i.toNat * s.te.sz)).take s.te.sz) (s' :: p) off g q
theorem PlAt.step {w w1:World} {L:List Nat} (h:∀ k∈L,w1.heap[k]? = w.heap[k]?):∀ {p:List Stp} {cs:List Value} {off g q:Nat},PlAt w L cs p off g q→PlAt w1 L cs p off g q
 | [],_,_,_,_,hp=>hp.elim
 | [s],_,_,_,_,hp=>hp
 | s :: s' :: p,_,_,_,_,hp=>by
  obtain ⟨g1,n,c,cur,e,fz,h1,h2,h3,h4,h5,h6⟩:=hp
  exact ⟨g1,n,c,cur,e,fz,h1,h2,h3,h4,(h g1 h1).trans h5,PlAt.step h h6⟩
theorem PlAt.mem {w:World} {L:List Nat}:∀ {p:List Stp} {cs:List Value} {off g q:Nat},PlAt w L cs p off g q→g∈L
 | [],_,_,_,_,hp=>hp.elim
 | [s],_,_,_,_,hp=>hp.1
 | s :: s' :: p,_,_,_,_,hp=>by
  obtain ⟨g1,n,c,cur,e,fz,h1,h2,h3,h4,h5,h6⟩:=hp
  exact PlAt.mem h6
theorem PlAt.add {w:World} {L:List Nat} (n:Nat):∀ {p:List Stp} {cs:List Value} {off g q:Nat},PlAt w L cs p off g q→PlAt w L cs p (off + n) g (q + n)
 | [],_,_,_,_,hp=>hp.elim
 | [s],_,_,_,_,hp=>by
  obtain ⟨h1,m,c,h2,h3,h4,h5⟩:=hp
  exact ⟨h1,m,c,h2,h3,h4,by omega⟩
 | s :: s' :: p,_,_,_,_,hp=>by
  obtain ⟨g1,m,c,cur,e,fz,h1,h2,h3,h4,h5,h6⟩:=hp
  exact ⟨g1,m,c,cur,e,fz,h1,h2,h3,h4,h5,h6.add n⟩
section
variable {w w':World} {ok ok':Nat→Prop}
theorem KS_same {t:Ty}:∀ {t0:Ty} {s s1:Sh} {off:Nat} {x0 x:t0.T} {cs0 cs:List Value} {L0 L:List Nat},shG s t0 off t = some s1→KS w ok s t0 x0 cs0 L0→KS w' ok' (shP s t0 off t s1) t0 x cs L→KS w' ok' s t0 x cs L:=by
 intro t0
 induction t0 with
 | pair a b iha ihb =>
  intro s s1 off x0 x cs0 cs L0 L hs h0 h
  simp only [shG] at hs
  simp only [shP] at h
  by_cases e:off = 0∧Ty.pair a b = t
  ·rw [if_pos e] at hs h
   injection hs with hs; subst hs; exact h
  ·rw [if_neg e] at hs h
   obtain ⟨c1,c2,L1,L2,_,_,k1,k2⟩:=KS_split h0
   have join:∀ {u v:Sh},u = s.l→v = s.r→KS w' ok' (.pr u v) (.pair a b) x cs L→KS w' ok' s (.pair a b) x cs L:=by
    rintro u v rfl rfl hh
    cases s with
    | fz =>
     obtain ⟨c1,c2,L1,L2,rfl,rfl,⟨rfl,g1⟩,⟨rfl,g2⟩⟩:=hh
     exact ⟨rfl,c1,c2,rfl,g1,g2⟩
    | mv =>
     obtain ⟨c1,c2,L1,L2,rfl,rfl,⟨rfl,g1,g3⟩,⟨rfl,g2,g4⟩⟩:=hh
     refine ⟨rfl,by simp [Ty.sz,g1,g2],fun u hu=>?_⟩
     rcases List.mem_append.1 hu with hu | hu
     ·exact g3 u hu
     ·exact g4 u hu
    | ow s=>exact h0.elim
    | ct s n=>exact h0.elim
    | pr a b=>exact hh
   by_cases hlt:off < a.sz
   ·rw [if_pos hlt] at hs h
    obtain ⟨d1,d2,M1,M2,rfl,rfl,g1,g2⟩:=h
    exact join rfl rfl ⟨d1,d2,M1,M2,rfl,rfl,iha hs k1 g1,g2⟩
   ·rw [if_neg hlt] at hs h
    obtain ⟨d1,d2,M1,M2,rfl,rfl,g1,g2⟩:=h
    exact join rfl rfl ⟨d1,d2,M1,M2,rfl,rfl,g1,ihb hs k2 g2⟩
 | _ =>
  intro s s1 off x0 x cs0 cs L0 L hs h0 h
  simp only [shG] at hs
  split at hs
  ·injection hs with hs; subst hs; simpa [shP] using h
  ·cases hs
theorem rows_len {s:Sh} {t:Ty} {xs:List t.T} {rs:List (List Value × List Nat)} (h:All2 (fun x r=>KS w ok s t x r.1 r.2) xs rs):∀ c∈rs.map Prod.fst,c.length = t.sz:=by
 intro c hc
 obtain ⟨r,hr,rfl⟩:=List.mem_map.1 hc
 obtain ⟨x,_,hx⟩:=h.mem r hr
 exact KS_len hx
theorem flat_at {α β:Type} (f:α→List β):∀ {rs:List α} {i:Nat} {r:α},rs[i]? = some r→(rs.map f).flatten = ((rs.take i).map f).flatten ++ (f r ++ ((rs.drop (i + 1)).map f).flatten)
 | [],i,r,h=>by simp at h
 | a :: rs,0,r,h=>by simp at h; subst h; simp
 | a :: rs,i + 1,r,h=>by
  have:=flat_at f (rs:=rs) (i:=i) (r:=r) (by simpa using h)
  simp [this]
theorem flat_at_set {α β:Type} (f:α→List β) {rs:List α} {i:Nat} {r r':α} (h:rs[i]? = some r):((rs.set i r').map f).flatten = ((rs.take i).map f).flatten ++ (f r' ++ ((rs.drop (i + 1)).map f).flatten):=by
 have hi:=(List.getElem?_eq_some_iff.1 h).1
 have:=flat_at f (rs:=rs.set i r') (i:=i) (r:=r') (by simp [hi])
 rw [this]
 congr 2
 ·rw [List.take_set_of_le (Nat.le_refl _)]
 ·rw [List.drop_set_of_lt (by omega)]
theorem All2.of_get {α β:Type} {R:α→β→Prop}:∀ {xs:List α} {ys:List β},xs.length = ys.length→(∀ (i:Nat) (x:α) (y:β),xs[i]? = some x→ys[i]? = some y→R x y)→All2 R xs ys
 | [],[],_,_=>trivial
 | x :: xs,y :: ys,h,hh=>⟨hh 0 x y rfl rfl,All2.of_get (by simpa using h) (fun i a b ha hb=>hh (i + 1) a b (by simpa using ha) (by simpa using hb))⟩
 | [],_ :: _,h,_=>by simp at h
 | _ :: _,[],h,_=>by simp at h
/-- Element i of a row: its cells in the block, and what it is to have another one there. -/
theorem KS_elem {s:Sh} {e:Nat} {t:Ty} {xs:List t.T} {cs:List Value} {L:List Nat} (h:KS w ok (.ow s) (.slice e t) xs cs L) {g n c:Nat} (hc:cs[0]? = some (.slice (some ⟨g,0,none⟩) n c)) {i:Nat} (hi:i < n) (z:t.T) :
  n = xs.length∧∃ (cur:Array Value) (La:List Nat) (r:List Value) (L1 Lb:List Nat),w.heap[g]? = some (.cells cur e (0,0))∧L = g :: (La ++ (L1 ++ Lb))∧i * t.sz + t.sz≤cur.size∧r = (cur.toList.drop (i * t.sz)).take t.sz∧KS w ok s t (xs.getD i z) r L1 ∧
   ∀ {w':World} {ok':Nat→Prop} {y:t.T} {r':List Value} {L2:List Nat} {cur':Array Value},(∀ k,ok k→k < w.heap.size→ok' k∧k < w'.heap.size∧w'.heap[k]? = w.heap[k]?)→(∀ k∈La ++ Lb,w'.heap[k]? = w.heap[k]?) →
    w'.heap[g]? = some (.cells cur' e (0,0))→cur'.size = cur.size→cur'.toList.take (n * t.sz) = (cur.toList.take (n * t.sz)).take (i * t.sz) ++ r' ++ (cur.toList.take (n * t.sz)).drop (i * t.sz + t.sz)→KS w' ok' s t y r' L2→KS w' ok' (.ow s) (.slice e t) (xs.set i y) cs (g :: (La ++ (L2 ++ Lb))):=by
 obtain ⟨v,rs,rfl,hr,ha,rfl⟩:=h
 simp only [List.getElem?_cons_zero,Option.some.injEq] at hc
 subst hc
 rcases hr.2 with ⟨h1,_⟩ | ⟨g',cap,cur,h1,_,hg,hn,hcap,hsz,hcs⟩
 ·cases h1
 injection h1 with h1 h2 h3
 injection h1 with h1
 injection h1 with h1
 subst h1; subst h2; subst h3
 have hl:=ha.length
 have hlen:(rs.map Prod.fst).length = xs.length:=by rw [List.length_map]; exact hl.symm
 have hrl:=rows_len ha
 have hri:rs[i]? = some rs[i]:=List.getElem?_eq_getElem (by omega)
 have hfi:(rs.map Prod.fst)[i]? = some rs[i].1:=by simp [hri]
 have hlist:cur.toList.length = c * t.sz:=by simpa using hsz
 have hle:i * t.sz + t.sz≤xs.length * t.sz:=by
  have:=Nat.mul_le_mul_right t.sz hi
  rw [Nat.succ_mul] at this; exact this
 have hle2:xs.length * t.sz≤c * t.sz:=Nat.mul_le_mul_right _ hn
 have hr1:rs[i].1 = (cur.toList.drop (i * t.sz)).take t.sz:=by
  have:=flat_get hrl hfi
  rw [← hcs] at this
  rw [← this,List.drop_take,List.take_take,Nat.min_eq_left (by omega)]
 refine ⟨rfl,cur,((rs.take i).map Prod.snd).flatten,rs[i].1,rs[i].2,((rs.drop (i + 1)).map Prod.snd).flatten,hg,?_,by omega,hr1,?_,?_⟩
 ·rw [flat_at Prod.snd hri]; rfl
 ·rw [List.getD_eq_getElem?_getD,List.getElem?_eq_getElem hi]
  exact ha.get (List.getElem?_eq_getElem hi) hri
 ·intro w' ok' y r' L2 cur' g1 g2 g3 g4 g5 g6
  have hr':r'.length = t.sz:=KS_len g6
  refine ⟨.slice (some ⟨g,0,none⟩) xs.length c,rs.set i (r',L2),rfl,?_,?_,?_⟩
  ·rw [List.length_set]
   refine ⟨?_,.inr ⟨g,c,cur',rfl,Nat.zero_le _,g3,hn,hcap,by rw [g4]; exact hsz,?_⟩⟩
   ·rw [List.map_set,flat_set i hrl (by omega) hr']
    have:=hr.1
    simp only [List.length_append,List.length_take,List.length_drop,this,hr']
    omega
   ·rw [List.map_set,flat_set i hrl (by omega) hr',g5,hcs]
  ·refine All2.of_get (by simp [hl]) ?_
   intro j a b ha' hb'
   rw [List.getElem?_set] at ha' hb'
   by_cases e:i = j
   ·subst e
    rw [if_pos rfl,if_pos hi] at ha'
    rw [if_pos rfl,if_pos (by omega)] at hb'
    injection ha' with ha'; injection hb' with hb'
    subst ha'; subst hb'
    exact g6
   ·rw [if_neg e] at ha' hb'
    refine KS_step g1 (fun k hk=>g2 k ?_) (ha.get ha' hb')
    have hj:=(List.getElem?_eq_some_iff.1 hb').1
    refine List.mem_append.2 ?_
    by_cases hlt:j < i
    ·refine .inl (List.mem_flatten.2 ⟨b.2,List.mem_map.2 ⟨b,?_,rfl⟩,hk⟩)
     exact List.mem_of_getElem? (i:=j) (by rw [List.getElem?_take,if_pos hlt]; exact hb')
    ·refine .inr (List.mem_flatten.2 ⟨b.2,List.mem_map.2 ⟨b,?_,rfl⟩,hk⟩)
     exact List.mem_of_getElem? (i:=j - (i + 1)) (by rw [List.getElem?_drop,show i + 1 + (j - (i + 1)) = j by omega]; exact hb')
  ·rw [flat_at_set Prod.snd hri]; rfl
theorem nodup_mid {A B C:List Nat} (h:(A ++ (B ++ C)).Nodup) {k:Nat} (hk:k∈B):k∉A∧k∉C:=by
 rw [List.nodup_append] at h
 obtain ⟨_,h2,h3⟩:=h
 rw [List.nodup_append] at h2
 exact ⟨fun h=>h3 k h k (by simp [hk]) rfl,fun h=>h2.2.2 k hk k h rfl⟩
/-- A step into a row. -/
theorem KS_into {t0 te:Ty} {e:Nat} {s s2:Sh} {x:t0.T} {xs:List te.T} {o:Nat} {cs:List Value} {L:List Nat} (h:KS w ok s t0 x cs L) (hn:L.Nodup) (hs:shG s t0 o (.slice e te) = some (.ow s2)) (hx:sub t0 x o (.slice e te) = some xs)
  {g n c:Nat} (hc:cs[o]? = some (.slice (some ⟨g,0,none⟩) n c)) {i:Nat} (hi:i < n) :
  n = xs.length∧∃ (cur:Array Value) (La:List Nat) (r:List Value) (L1 Lb:List Nat),w.heap[g]? = some (.cells cur e (0,0))∧L = La ++ (L1 ++ Lb)∧g∈La∧i * te.sz + te.sz≤n * te.sz∧n * te.sz≤cur.size∧r = (cur.toList.drop (i * te.sz)).take te.sz∧KS w ok s2 te (xs.getD i te.zero) r L1 ∧
   ∀ {w':World} {ok':Nat→Prop} {z:te.T} {r':List Value} {L2:List Nat} {cur':Array Value} {x':t0.T},(∀ k,ok k→k < w.heap.size→ok' k∧k < w'.heap.size∧w'.heap[k]? = w.heap[k]?)→(∀ k∈La ++ Lb,k≠g→w'.heap[k]? = w.heap[k]?) →
    w'.heap[g]? = some (.cells cur' e (0,0))→cur'.size = cur.size→cur'.toList.take (n * te.sz) = (cur.toList.take (n * te.sz)).take (i * te.sz) ++ r' ++ (cur.toList.take (n * te.sz)).drop (i * te.sz + te.sz)→KS w' ok' s2 te z r' L2 →
    put t0 x o (.slice e te) (List.set xs i z) = some x'→KS w' ok' s t0 x' cs (La ++ (L2 ++ Lb)):=by
 obtain ⟨La0,L',Lb0,rfl,h1,h2,h3⟩:=KS_focus hx hs h
 have hc':((cs.drop o).take (Ty.slice e te).sz)[0]? = some (.slice (some ⟨g,0,none⟩) n c):=by
  rw [List.getElem?_take,if_pos (by simp [Ty.sz]),List.getElem?_drop]; exact hc
 obtain ⟨rfl,cur,La,r,L1,Lb,hg,rfl,h4,h5,h6,h7⟩:=KS_elem h2 hc' hi te.zero
 have hsz:xs.length * te.sz≤cur.size:=by
  obtain ⟨v,rs,hv,hr,_⟩:=h2
  rw [hv] at hc'
  simp only [List.getElem?_cons_zero,Option.some.injEq] at hc'
  subst hc'
  rcases hr.2 with ⟨q1,_⟩ | ⟨g',cap,cur1,q1,_,q2,q3,_,q4,_⟩
  ·cases q1
  ·injection q1 with q1 _ _
   injection q1 with q1
   injection q1 with q1
   subst q1
   rw [hg] at q2
   injection q2 with q2
   injection q2 with q2
   subst q2
   rw [q4]
   exact Nat.mul_le_mul_right _ q3
 have hle:i * te.sz + te.sz≤xs.length * te.sz:=by
  have:=Nat.mul_le_mul_right te.sz hi
  rw [Nat.succ_mul] at this; exact this
 have hgm:=nodup_mid hn (k:=g) (by simp)
 refine ⟨rfl,cur,La0 ++ g :: La,r,L1,Lb ++ Lb0,hg,by simp,by simp,hle,hsz,h5,h6,?_⟩
 intro w' ok' z r' L2 cur' x' g1 g2 g3 g4 g5 g6 g7
 have hin:∀ k∈La ++ Lb,k≠g:=by
  intro k hk e'
  subst e'
  rw [List.nodup_append] at hn
  have h8:=hn.2.1
  rw [List.nodup_append] at h8
  have h9:=h8.1
  rw [List.nodup_cons] at h9
  exact h9.1 (by simp only [List.mem_append] at hk ⊢; rcases hk with hk | hk <;> simp [hk])
 have k1:=h7 g1 (fun k hk=>g2 k (by simp only [List.mem_append,List.mem_cons] at hk ⊢; rcases hk with hk | hk <;> simp [hk]) (hin k hk)) g3 g4 g5 g6
 have k2:=h3 g1 (fun k hk=>g2 k (by simp only [List.mem_append,List.mem_cons] at hk ⊢; rcases hk with hk | hk <;> simp [hk]) (fun e'=>by
  subst e'
  rcases List.mem_append.1 hk with hk | hk
  ·exact hgm.1 hk
  ·exact hgm.2 hk)) g7 k1
 have e1:cs.take o ++ (cs.drop o).take (Ty.slice e te).sz ++ cs.drop (o + (Ty.slice e te).sz) = cs:=by
  rw [List.append_assoc]
  have:(cs.drop o).take (Ty.slice e te).sz ++ cs.drop (o + (Ty.slice e te).sz) = cs.drop o:=by
   rw [← List.drop_drop]; exact List.take_append_drop _ _
  rw [this,List.take_append_drop]
 rw [e1] at k2
 have:=KS_same hs h k2
 simpa using this
/-- A place behind rows; and what it is to put another datum there. -/
theorem KS_path {t:Ty}:∀ (p:List Stp) {t0:Ty} {s:Sh} {x:t0.T} {off:Nat} {y:t.T} {s1:Sh} {cs:List Value} {L:List Nat} {g q:Nat} {L0:List Nat},KS w ok s t0 x cs L→L.Nodup→PlAt w L0 cs p off g q→getP t0 x p off t = some y→shGP s t0 p off t = some s1 →
  ∃ (La L1 Lb:List Nat) (cur:Array Value) (e:Nat),L = La ++ (L1 ++ Lb)∧g∈La∧w.heap[g]? = some (.cells cur e (0,0))∧q + t.sz≤cur.size∧KS w ok s1 t y ((cur.toList.drop q).take t.sz) L1 ∧
   ∀ {w':World} {ok':Nat→Prop} {y':t.T} {cy:List Value} {L2:List Nat} {x':t0.T} {cur':Array Value},(∀ k,ok k→k < w.heap.size→ok' k∧k < w'.heap.size∧w'.heap[k]? = w.heap[k]?)→(∀ k∈La ++ Lb,k≠g→w'.heap[k]? = w.heap[k]?) →
    w'.heap[g]? = some (.cells cur' e (0,0))→cur'.toList = cur.toList.take q ++ cy ++ cur.toList.drop (q + t.sz)→putP t0 x p off t y' = some x'→KS w' ok' s1 t y' cy L2→KS w' ok' s t0 x' cs (La ++ (L2 ++ Lb))
 | [],_,_,_,_,_,_,_,_,_,_,_,_,_,hp,_,_=>hp.elim
 | [st],t0,s,x,off,y,s1,cs,L,g,q,L0,h,hn,hp,hg,hs=>by
  obtain ⟨_,n,c,hc,hi0,hi,rfl⟩:=hp
  simp only [getP] at hg
  simp only [shGP] at hs
  split at hg
  case h_2=>cases hg
  rename_i xs hx
  split at hs
  case h_2=>cases hs
  rename_i s2 hs2
  obtain ⟨rfl,cur,La,r,L1,Lb,hgc,rfl,hgm,hle,hsz,rfl,h6,h7⟩:=KS_into h hn hs2 hx hc hi
  obtain ⟨La1,M,Lb1,rfl,k1,k2,k3⟩:=KS_focus hg hs h6
  refine ⟨La ++ La1,M,Lb1 ++ Lb,cur,st.e,by simp,by simp [hgm],hgc,by omega,?_,?_⟩
  ·have:(((cur.toList.drop (st.i.toNat * st.te.sz)).take st.te.sz).drop off).take t.sz = (cur.toList.drop (st.i.toNat * st.te.sz + off)).take t.sz:=by
    rw [List.drop_take,List.drop_drop,List.take_take,Nat.min_eq_left (by omega)]
   rw [← this]; exact k2
  ·intro w' ok' y' cy L2 x' cur' g1 g2 g3 g4 g5 g6
   simp only [putP,hx] at g5
   split at g5
   case h_2=>cases g5
   rename_i z hz
   have hcy:cy.length = t.sz:=KS_len g6
   have hgM:∀ k∈La1 ++ Lb1,k≠g:=by
    intro k hk e'
    subst e'
    rw [List.nodup_append] at hn
    refine hn.2.2 _ hgm k ?_ rfl
    simp only [List.mem_append] at hk ⊢
    rcases hk with hk | hk <;> simp [hk]
   have m1:=k3 g1 (fun k hk=>g2 k (by simp only [List.mem_append] at hk ⊢; rcases hk with hk | hk <;> simp [hk]) (hgM k hk)) hz g6
   have m2:=KS_same hs h6 m1
   have hcl:cur.toList.length = cur.size:=by simp
   have m3:=h7 (cur':=cur') (x':=x') g1 (fun k hk=>g2 k (by simp only [List.mem_append] at hk ⊢; rcases hk with hk | hk <;> simp [hk])) g3 (by
    have:cur'.toList.length = cur.size:=by
     rw [g4]; simp only [List.length_append,List.length_take,List.length_drop,hcy,hcl]; omega
    simpa using this) (by
    rw [g4,splice_take cur.toList cy (st.i.toNat * st.te.sz) off t.sz st.te.sz (xs.length * st.te.sz) hcy k1 hle (by rw [hcl]; exact hsz)]
    congr 2
    have:((cur.toList.take (xs.length * st.te.sz)).drop (st.i.toNat * st.te.sz)).take st.te.sz = (cur.toList.drop (st.i.toNat * st.te.sz)).take st.te.sz:=by
     rw [List.drop_take,List.take_take,Nat.min_eq_left (by omega)]
    rw [this]) m2 g5
   simpa using m3
 | st :: st' :: p,t0,s,x,off,y,s1,cs,L,g,q,L0,h,hn,hp,hg,hs=>by
  obtain ⟨g1,n,c,cur1,e1,fz,_,hc,hi0,hi,hb,hp'⟩:=hp
  rw [getP] at hg
  rw [shGP] at hs
  split at hg
  case h_2=>cases hg
  rename_i xs hx
  split at hs
  case h_2=>cases hs
  rename_i s2 hs2
  obtain ⟨rfl,cur,La,r,L1,Lb,hgc,rfl,hgm,hle,hsz,rfl,h6,h7⟩:=KS_into h hn hs2 hx hc hi
  rw [hgc] at hb
  injection hb with hb
  injection hb with hb1 hb2 hb3
  subst hb1
  have hn1:L1.Nodup:=by
   rw [List.nodup_append] at hn
   have:=hn.2.1
   rw [List.nodup_append] at this
   exact this.1
  obtain ⟨La1,M,Lb1,curg,eg,rfl,m1,m2,m3,m4,m5⟩:=KS_path (st' :: p) h6 hn1 hp' hg hs
  have hne:g1≠g:=by
   intro e'
   subst e'
   rw [List.nodup_append] at hn
   exact hn.2.2 _ hgm g1 (by simp [m1]) rfl
  refine ⟨La ++ La1,M,Lb1 ++ Lb,curg,eg,by simp,by simp [m1],m2,m3,m4,?_⟩
  intro w' ok' y' cy L2 x' cur' k1 k2 k3 k4 k5 k6
  rw [putP] at k5
  simp only [hx] at k5
  split at k5
  case h_2=>cases k5
  rename_i z hz
  have n1:=m5 k1 (fun k hk=>k2 k (by simp only [List.mem_append] at hk ⊢; rcases hk with hk | hk <;> simp [hk])) k3 k4 hz k6
  have hlist:cur.toList.take (xs.length * st.te.sz) = (cur.toList.take (xs.length * st.te.sz)).take (st.i.toNat * st.te.sz) ++ (cur.toList.drop (st.i.toNat * st.te.sz)).take st.te.sz ++ (cur.toList.take (xs.length * st.te.sz)).drop (st.i.toNat * st.te.sz + st.te.sz):=by
   have:((cur.toList.take (xs.length * st.te.sz)).drop (st.i.toNat * st.te.sz)).take st.te.sz = (cur.toList.drop (st.i.toNat * st.te.sz)).take st.te.sz:=by
    rw [List.drop_take,List.take_take,Nat.min_eq_left (by omega)]
   rw [← this,List.append_assoc]
   have h2:((cur.toList.take (xs.length * st.te.sz)).drop (st.i.toNat * st.te.sz)).take st.te.sz ++ (cur.toList.take (xs.length * st.te.sz)).drop (st.i.toNat * st.te.sz + st.te.sz) = (cur.toList.take (xs.length * st.te.sz)).drop (st.i.toNat * st.te.sz):=by
    rw [← List.drop_drop]; exact List.take_append_drop _ _
   rw [h2,List.take_append_drop]
  have n2:=h7 (w':=w') (ok':=ok') (cur':=cur) (x':=x') k1 (fun k hk hkg=>k2 k (by simp only [List.mem_append] at hk ⊢; rcases hk with hk | hk <;> simp [hk]) (fun e'=>by
   subst e'
   obtain ⟨h8,h9⟩:=nodup_mid hn (k:=k) (by simp [m1])
   rcases List.mem_append.1 hk with hk | hk
   ·exact h8 hk
   ·exact h9 hk)) (by rw [k2 g1 (by simp [hgm]) hne]; exact hgc) rfl hlist n1 k5
  simpa using n2
end
end Go.Fil
