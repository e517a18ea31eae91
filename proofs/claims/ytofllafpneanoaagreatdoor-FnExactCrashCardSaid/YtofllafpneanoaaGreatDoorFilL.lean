/- Rows that a call may mark: what is kept of them (kinds, lengths), and that a scalar's store keeps it. -/
import Derived.Test.YtofllafpneanoaaGreatDoorFil1
set_option linter.unusedSimpArgs false
namespace Go.Fil
open Go.RowKit
set_option linter.unusedVariables false
/-- As K, but of the scalars only the kind. -/
def KL (w:World) (ok:Nat→Prop):(t:Ty)→t.T→List Value→Prop
 | .int k,_,cs=>∃ n,cs = [.int k n]
 | .bool,_,cs=>∃ b,cs = [.bool b]
 | .str,_,cs=>∃ s,cs = [.string s]
 | .slice _ t,xs,cs=>∃ A c,∃ css:List (List Value),cs = [.slice A xs.length c]∧xs.length≤c∧xs.length≤maxLen∧All2 (fun x r=>KL w ok t x r) xs css∧(0 < xs.length→∃ ad,A = some ad∧ok ad.block∧ad.block < w.heap.size∧At w ad css.flatten)
 | .unit,_,cs=>cs = []
 | .pair a b,x,cs=>∃ c1 c2,cs = c1 ++ c2∧KL w ok a x.1 c1∧KL w ok b x.2 c2
theorem KL_len {w:World} {ok:Nat→Prop}:∀ {t:Ty} {x:t.T} {cs:List Value},KL w ok t x cs→cs.length = t.sz
 | .int _,_,_,h=>by obtain ⟨n,rfl⟩:=h; simp [Ty.sz]
 | .bool,_,_,h=>by obtain ⟨n,rfl⟩:=h; simp [Ty.sz]
 | .str,_,_,h=>by obtain ⟨n,rfl⟩:=h; simp [Ty.sz]
 | .slice _ _,_,_,h=>by obtain ⟨A,c,css,rfl,_⟩:=h; simp [Ty.sz]
 | .unit,_,_,h=>by simp [KL] at h; simp [h,Ty.sz]
 | .pair a b,_,_,h=>by
  obtain ⟨c1,c2,rfl,h1,h2⟩:=h
  simp [Ty.sz,KL_len h1,KL_len h2]
theorem KL_one {w:World} {ok:Nat→Prop}:∀ {t:Ty} {x:t.T} {cs:List Value},KL w ok t x cs→∀ u∈cs,u.oneCell' = true
 | .int _,_,_,h=>by obtain ⟨n,rfl⟩:=h; simp [Value.oneCell']
 | .bool,_,_,h=>by obtain ⟨n,rfl⟩:=h; simp [Value.oneCell']
 | .str,_,_,h=>by obtain ⟨n,rfl⟩:=h; simp [Value.oneCell']
 | .slice _ _,_,_,h=>by obtain ⟨A,c,css,rfl,_⟩:=h; simp [Value.oneCell']
 | .unit,_,_,h=>by simp [KL] at h; simp [h]
 | .pair a b,_,_,h=>by
  obtain ⟨c1,c2,rfl,h1,h2⟩:=h
  intro u hu
  rcases List.mem_append.1 hu with hu | hu
  ·exact KL_one h1 u hu
  ·exact KL_one h2 u hu
/-- A value that says x but for its scalars. -/
def VL (w:World) (ok:Nat→Prop) (t:Ty) (x:t.T) (v:Value):Prop:=∃ cs,KL w ok t x cs∧v = t.val cs
theorem VL_slice {w:World} {ok:Nat→Prop} {e:Nat} {t:Ty} {xs:List t.T} {v:Value} (h:VL w ok (.slice e t) xs v):∃ A c,∃ css:List (List Value),v = .slice A xs.length c∧xs.length≤c∧xs.length≤maxLen∧All2 (fun x r=>KL w ok t x r) xs css∧(0 < xs.length→∃ ad,A = some ad∧ok ad.block∧ad.block < w.heap.size∧At w ad css.flatten):=by
 obtain ⟨cs,⟨A,c,css,rfl,h1⟩,rfl⟩:=h
 exact ⟨A,c,css,rfl,h1⟩
theorem flatL_len {w:World} {ok:Nat→Prop} {t:Ty} {xs:List t.T} {css:List (List Value)} (h:All2 (fun x r=>KL w ok t x r) xs css):∀ c∈css,c.length = t.sz:=by
 intro c hc
 obtain ⟨i,hi,rfl⟩:=List.mem_iff_getElem.1 hc
 have hl:=h.length
 exact KL_len (h.get (i:=i) (List.getElem?_eq_getElem (by omega)) (List.getElem?_eq_getElem hi))
theorem elem_KL {w:World} {ok:Nat→Prop} {t:Ty} {xs:List t.T} {css:List (List Value)} (h:All2 (fun x r=>KL w ok t x r) xs css) {ad:Addr} (hc:At w ad css.flatten) {i:Nat} (hi:i < xs.length) (z:t.T) :
  ∃ c,KL w ok t (xs.getD i z) c∧At w (ad.add (i * t.sz)) c:=by
 have hl:=h.length
 have hg:css[i]? = some css[i]:=List.getElem?_eq_getElem (by omega)
 refine ⟨css[i],?_,?_⟩
 ·rw [List.getD_eq_getElem?_getD,List.getElem?_eq_getElem hi]
  exact h.get (List.getElem?_eq_getElem hi) hg
 ·have:=(hc.drop (i * t.sz)).take t.sz
  rwa [flat_get (flatL_len h) hg] at this
def Sc (u u':Value):Prop:=u = u'∨(∃ k n m,u = .int k n∧u' = .int k m)∨(∃ b c,u = .bool b∧u' = .bool c)∨∃ s r,u = .string s∧u' = .string r
theorem Sc.refl (u:Value):Sc u u:=.inl rfl
theorem Sc.trans {u v x:Value} (h:Sc u v) (h':Sc v x):Sc u x:=by
 rcases h with rfl | ⟨k,n,m,rfl,rfl⟩ | ⟨b,c,rfl,rfl⟩ | ⟨s,r,rfl,rfl⟩
 ·exact h'
 all_goals
  rcases h' with rfl | ⟨k',n',m',h1,rfl⟩ | ⟨b',c',h1,rfl⟩ | ⟨s',r',h1,rfl⟩ <;> first
   | (exact .inr (.inl ⟨_,_,_,rfl,rfl⟩))
   | (exact .inr (.inr (.inl ⟨_,_,rfl,rfl⟩)))
   | (exact .inr (.inr (.inr ⟨_,_,rfl,rfl⟩)))
   | (cases h1; done)
   | (injection h1 with h1 h2; subst h1; exact .inr (.inl ⟨_,_,_,rfl,rfl⟩))
/-- In the blocks of M: cells not frozen, as they were or scalars over scalars of their kind. -/
def MarkB (w w':World) (k:Nat):Prop:=∃ cs cs' e,w.heap[k]? = some (.cells cs e (0,0))∧w'.heap[k]? = some (.cells cs' e (0,0))∧cs.size = cs'.size∧∀ (j:Nat) (u:Value),cs[j]? = some u→∃ u',cs'[j]? = some u'∧Sc u u'
def Mark (M:Nat→Prop) (w w':World):Prop:=∀ k,M k→MarkB w w' k
theorem Mark.trans {M:Nat→Prop} {a b c:World} (h:Mark M a b) (h':Mark M b c):Mark M a c:=by
 intro k hk
 obtain ⟨cs,cs',e,h1,h2,h3,h4⟩:=h k hk
 obtain ⟨ds,ds',e',h5,h6,h7,h8⟩:=h' k hk
 rw [h2] at h5
 injection h5 with h5; injection h5 with h5 h9
 subst h5; subst h9
 refine ⟨cs,ds',e,h1,h6,by omega,fun j u hu=>?_⟩
 obtain ⟨u',h9,h10⟩:=h4 j u hu
 obtain ⟨u2,h11,h12⟩:=h8 j u' h9
 exact ⟨u2,h11,h10.trans h12⟩
theorem Mark.keep {M:Nat→Prop} {a b c:World} (h:Mark M a b) (hb:∀ k,M k→c.heap[k]? = b.heap[k]?):Mark M a c:=by
 intro k hk
 obtain ⟨cs,cs',e,h1,h2,h3,h4⟩:=h k hk
 exact ⟨cs,cs',e,h1,by rw [hb k hk]; exact h2,h3,h4⟩
theorem Mark.lt {M:Nat→Prop} {a b:World} (h:Mark M a b) {k:Nat} (hk:M k):k < b.heap.size:=by
 obtain ⟨cs,cs',e,h1,h2,_⟩:=h k hk
 exact (Array.getElem?_eq_some_iff.1 h2).1
theorem Mark.cell {M:Nat→Prop} {w w':World} (h:Mark M w w') {ad:Addr} (hk:M ad.block) {u:Value} (hu:w.cell? ad = some u):∃ u',w'.cell? ad = some u'∧Sc u u':=by
 obtain ⟨cs,cs',e,h1,h2,h3,h4⟩:=h _ hk
 simp only [World.cell?,h1,h2] at hu ⊢
 split at hu
 ·cases hu
 ·rename_i hs
  rw [if_neg hs]
  exact h4 _ _ hu
theorem Mark.at {M:Nat→Prop} {w w':World} (h:Mark M w w'):∀ {L:List Value} {ad:Addr},M ad.block→At w ad L→∃ L2,At w' ad L2∧All2 Sc L L2
 | [],ad,_,_=>⟨[],fun j u hu=>by simp at hu,trivial⟩
 | x :: L,ad,hk,ha=>by
  have h0:w.cell? ad = some x:=by have:=ha 0 x rfl; rwa [add_zero'] at this
  obtain ⟨x',h1,h2⟩:=h.cell hk h0
  obtain ⟨L2,h3,h4⟩:=Mark.at h (L:=L) (ad:=ad.add 1) (by rw [add_block]; exact hk) (by have:=ha.drop 1; simpa using this)
  refine ⟨x' :: L2,?_,h2,h4⟩
  intro j u hu
  cases j with
  | zero=>simp at hu; subst hu; rw [add_zero']; exact h1
  | succ j =>
   have:=h3 j u (by simpa using hu)
   rwa [add_add,Nat.add_comm] at this
theorem All2.cut {α β:Type} {R:α→β→Prop}:∀ {xs ys:List α} {L:List β},All2 R (xs ++ ys) L→∃ a b,L = a ++ b∧All2 R xs a∧All2 R ys b
 | [],ys,L,h=>⟨[],L,rfl,trivial,h⟩
 | x :: xs,ys,[],h=>h.elim
 | x :: xs,ys,l :: L,h=>by
  obtain ⟨a,b,rfl,h1,h2⟩:=All2.cut (xs:=xs) h.2
  exact ⟨l :: a,b,rfl,⟨h.1,h1⟩,h2⟩
theorem rows_mark {w w':World} {ok:Nat→Prop} {t:Ty} (ih:∀ (x:t.T) (c c2:List Value),KL w ok t x c→All2 Sc c c2→KL w' ok t x c2):∀ {xs:List t.T} {css:List (List Value)} {L:List Value},All2 (fun x r=>KL w ok t x r) xs css→All2 Sc css.flatten L→∃ css2,L = css2.flatten∧All2 (fun x r=>KL w' ok t x r) xs css2
 | [],[],L,_,h=>by
  cases L with
  | nil=>exact ⟨[],rfl,trivial⟩
  | cons _ _=>exact h.elim
 | x :: xs,c :: css,L,hx,h=>by
  rw [List.flatten_cons] at h
  obtain ⟨a,b,rfl,h1,h2⟩:=All2.cut h
  obtain ⟨css2,rfl,h3⟩:=rows_mark ih hx.2 h2
  exact ⟨a :: css2,rfl,ih _ _ _ hx.1 h1,h3⟩
 | [],_ :: _,_,h,_=>h.elim
 | _ :: _,[],_,h,_=>h.elim
theorem KL_mark {w w':World} {M:Nat→Prop} (hm:Mark M w w'):∀ {t:Ty} {x:t.T} {cs cs2:List Value},KL w M t x cs→All2 Sc cs cs2→KL w' M t x cs2
 | .int k,_,_,cs2,h,h2=>by
  obtain ⟨n,rfl⟩:=h
  match cs2,h2 with
  | [u],h2 =>
   rcases h2.1 with rfl | ⟨k',n',m',h1,rfl⟩ | ⟨b',c',h1,rfl⟩ | ⟨s',r',h1,rfl⟩
   ·exact ⟨_,rfl⟩
   ·injection h1 with h1 _; subst h1; exact ⟨_,rfl⟩
   ·cases h1
   ·cases h1
 | .bool,_,_,cs2,h,h2=>by
  obtain ⟨n,rfl⟩:=h
  match cs2,h2 with
  | [u],h2 =>
   rcases h2.1 with rfl | ⟨k',n',m',h1,rfl⟩ | ⟨b',c',h1,rfl⟩ | ⟨s',r',h1,rfl⟩
   ·exact ⟨_,rfl⟩
   ·cases h1
   ·exact ⟨_,rfl⟩
   ·cases h1
 | .str,_,_,cs2,h,h2=>by
  obtain ⟨n,rfl⟩:=h
  match cs2,h2 with
  | [u],h2 =>
   rcases h2.1 with rfl | ⟨k',n',m',h1,rfl⟩ | ⟨b',c',h1,rfl⟩ | ⟨s',r',h1,rfl⟩
   ·exact ⟨_,rfl⟩
   ·cases h1
   ·cases h1
   ·exact ⟨_,rfl⟩
 | .slice _ t,xs,_,cs2,h,h2=>by
  obtain ⟨A,c,css,rfl,h3,h4,h5,h6⟩:=h
  match cs2,h2 with
  | [u],h2 =>
   have hu:u = .slice A xs.length c:=by
    rcases h2.1 with h7 | ⟨k',n',m',h1,_⟩ | ⟨b',c',h1,_⟩ | ⟨s',r',h1,_⟩
    ·exact h7.symm
    all_goals cases h1
   subst hu
   by_cases hp:0 < xs.length
   ·obtain ⟨ad,rfl,h7,h8,h9⟩:=h6 hp
    obtain ⟨L2,h10,h11⟩:=hm.at h7 h9
    obtain ⟨css2,rfl,h12⟩:=rows_mark (fun x c c2 hx hc=>KL_mark hm hx hc) h5 h11
    exact ⟨_,_,css2,rfl,h3,h4,h12,fun _=>⟨ad,rfl,h7,hm.lt h7,h10⟩⟩
   ·have h0:xs = []:=List.eq_nil_of_length_eq_zero (by omega)
    subst h0
    exact ⟨_,_,[],rfl,h3,h4,trivial,fun h=>by simp at h⟩
 | .unit,_,_,cs2,h,h2=>by
  simp only [KL] at h
  subst h
  cases cs2 with
  | nil=>rfl
  | cons _ _=>exact h2.elim
 | .pair a b,_,_,cs2,h,h2=>by
  obtain ⟨c1,c2,rfl,h3,h4⟩:=h
  obtain ⟨d1,d2,rfl,h5,h6⟩:=All2.cut h2
  exact ⟨d1,d2,rfl,KL_mark hm h3 h5,KL_mark hm h4 h6⟩
theorem VL_mark {w w':World} {M:Nat→Prop} (hm:Mark M w w') {t:Ty} {x:t.T} {v:Value} (h:VL w M t x v):VL w' M t x v:=by
 obtain ⟨cs,h1,h2⟩:=h
 refine ⟨cs,KL_mark hm h1 ?_,h2⟩
 clear h1 h2
 induction cs with
 | nil=>trivial
 | cons u cs ih=>exact ⟨Sc.refl u,ih⟩
/-- A scalar over a scalar of its kind. -/
theorem mark_store {P:Program} {M:Nat→Prop} {w0 w:World} (h:Mark M w0 w) {ad:Addr} (hk:M ad.block) {u v:Value} (hu:w0.cell? ad = some u) (hv:Sc u v) (h1:v.oneCell' = true) :
  (store ad v).run P w = .ok () (w.setCell ad v)∧Mark M w0 (w.setCell ad v):=by
 obtain ⟨u',hu',hs⟩:=h.cell hk hu
 obtain ⟨cs,cs',e,g1,g2,g3,g4⟩:=h _ hk
 have hspot:ad.spot.isSome = false:=by
  simp only [World.cell?,g1] at hu
  split at hu
  ·cases hu
  ·rename_i hs; simpa using hs
 refine ⟨?_,?_⟩
 ·rw [run_store P w ad v _ h1,hu']
  have:w.frozen? ad = false:=by simp [World.frozen?,g2]
  simp [this]
 ·intro k hk'
  by_cases e1:k = ad.block
  ·subst e1
   refine ⟨cs,cs'.setIfInBounds ad.off v,e,g1,?_,by simpa using g3,fun j x hx=>?_⟩
   ·simp only [World.setCell,Array.getElem?_modify,if_true,g2,Option.map_some,hspot]
    simp
   ·obtain ⟨x',hx',hxs⟩:=g4 j x hx
    rw [Array.getElem?_setIfInBounds]
    by_cases ej:ad.off = j
    ·subst ej
     have hlt:ad.off < cs'.size:=(Array.getElem?_eq_some_iff.1 hx').1
     rw [if_pos rfl,if_pos hlt]
     refine ⟨v,rfl,?_⟩
     simp only [World.cell?,g1,hspot] at hu
     have:x = u:=by simpa [hx] using hu
     rw [this]; exact hv
    ·rw [if_neg ej]
     exact ⟨x',hx',hxs⟩
  ·obtain ⟨ds,ds',e',k1,k2,k3,k4⟩:=h k hk'
   refine ⟨ds,ds',e',k1,?_,k3,k4⟩
   rw [Below.heap_setCell _ _ _ _ e1]; exact k2
/-- As 'Below', but for the blocks of M. -/
structure BelowM (M:Nat→Prop) (B:Nat) (w w':World):Prop where
 os:w'.os = w.os
 tape:w'.tape = w.tape
 output:w'.output = w.output
 size:w.heap.size≤w'.heap.size
 block:∀ k,k < B→¬ M k→w'.heap[k]? = w.heap[k]?
theorem BelowM.refl (M:Nat→Prop) (B:Nat) (w:World):BelowM M B w w:=⟨rfl,rfl,rfl,Nat.le_refl _,fun _ _ _=>rfl⟩
theorem BelowM.transM {M:Nat→Prop} {B:Nat} {a b c:World} (h:BelowM M B a b) (k:BelowM M B b c):BelowM M B a c :=
 ⟨k.os.trans h.os,k.tape.trans h.tape,k.output.trans h.output,Nat.le_trans h.size k.size,fun i hi hm=>(k.block i hi hm).trans (h.block i hi hm)⟩
theorem BelowM.mono {M:Nat→Prop} {B B':Nat} {w w':World} (h:BelowM M B w w') (hB:B'≤B):BelowM M B' w w':=⟨h.os,h.tape,h.output,h.size,fun k hk=>h.block k (by omega)⟩
theorem BelowM.of {M:Nat→Prop} {B:Nat} {w w':World} (h:Below B w w'):BelowM M B w w':=⟨h.os,h.tape,h.output,h.size,fun k hk _=>h.block k hk⟩
theorem BelowM.trans {M:Nat→Prop} {B:Nat} {a b c:World} (h:BelowM M B a b) (k:Below B b c):BelowM M B a c:=h.transM (.of k)
theorem BelowM.grown {M:Nat→Prop} {B:Nat} {a w w':World} {row:Option Nat} (h:BelowM M B a w) (hg:w.grownBy w' row) (hB:B≤w.heap.size) (hr:∀ k,row = some k→B≤k):BelowM M B a w' :=
 h.trans ((Below.refl B w).grown hg hB hr)
theorem BelowM.block' {M M':Nat→Prop} {B:Nat} {w w':World} (h:BelowM M B w w') (hM:∀ k,M k→M' k):BelowM M' B w w':=⟨h.os,h.tape,h.output,h.size,fun k hk hm=>h.block k hk (fun h'=>hm (hM k h'))⟩
theorem BelowM.below {M:Nat→Prop} {B:Nat} {w w':World} (h:BelowM M B w w') (hM:∀ k,¬ M k):Below B w w':=⟨h.os,h.tape,h.output,h.size,fun k hk=>h.block k hk (hM k)⟩
end Go.Fil
