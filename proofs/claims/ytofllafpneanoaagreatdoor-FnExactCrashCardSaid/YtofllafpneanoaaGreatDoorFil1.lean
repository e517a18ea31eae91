/- Kinds of data by code (Ty), what a world's cells say of them (K), sub-values. -/
import Derived.RowKit
import Derived.Maps.AppendAt
import Derived.Laws.IdiomCopy
import Derived.KernelRfl
import Derived.Below
import Derived.Laws.BytesString
set_option linter.unusedVariables false
set_option linter.unusedSimpArgs false
namespace Go.Fil
open Go.RowKit
inductive Ty where
 | int (k:IntKind)
 | bool
 | str
 | slice (e:Nat) (t:Ty)
 | unit
 | pair (a b:Ty)
 deriving DecidableEq
@[reducible] def Ty.T:Ty→Type
 | .int _=>Int
 | .bool=>Bool
 | .str=>ByteArray
 | .slice _ t=>List t.T
 | .unit=>Unit
 | .pair a b=>a.T × b.T
def Ty.sz:Ty→Nat
 | .unit=>0
 | .pair a b=>a.sz + b.sz
 | _=>1
def Ty.agg:Ty→Bool
 | .unit=>true
 | .pair _ _=>true
 | _=>false
/-- No slice inside. -/
def Ty.flat:Ty→Bool
 | .slice _ _=>false
 | .pair a b=>a.flat && b.flat
 | _=>true
def Ty.zero:(t:Ty)→t.T
 | .int _=>(0:Int)
 | .bool=>false
 | .str=>(⟨#[]⟩:ByteArray)
 | .slice _ _=>[]
 | .unit=>()
 | .pair a b=>(a.zero,b.zero)
def Ty.zcells:Ty→List Value
 | .int k=>[.int k 0]
 | .bool=>[.bool false]
 | .str=>[.string ⟨#[]⟩]
 | .slice _ _=>[.slice none 0 0]
 | .unit=>[]
 | .pair a b=>a.zcells ++ b.zcells
/-- The value of which these are the cells. -/
def Ty.val (t:Ty) (cs:List Value):Value:=if t.agg then .agg cs.toArray else cs.headD (.tuple #[])
/-- Cells from an address on. -/
def At (w:World) (ad:Addr) (cs:List Value):Prop:=∀ j u,cs[j]? = some u→w.cell? (ad.add j) = some u
def All2 {α β:Type} (R:α→β→Prop):List α→List β→Prop
 | [],[]=>True
 | x :: xs,y :: ys=>R x y∧All2 R xs ys
 | _,_=>False
/-- The cells cs of world w say x; what they lead to lies in blocks of ok. -/
def K (w:World) (ok:Nat→Prop):(t:Ty)→t.T→List Value→Prop
 | .int k,n,cs=>cs = [.int k n]
 | .bool,b,cs=>cs = [.bool b]
 | .str,s,cs=>cs = [.string s]
 | .slice _ t,xs,cs=>∃ A c,∃ css:List (List Value),cs = [.slice A xs.length c]∧xs.length≤c∧xs.length≤maxLen∧All2 (fun x r=>K w ok t x r) xs css∧(0 < xs.length→∃ ad,A = some ad∧ok ad.block∧ad.block < w.heap.size∧At w ad css.flatten)
 | .unit,_,cs=>cs = []
 | .pair a b,x,cs=>∃ c1 c2,cs = c1 ++ c2∧K w ok a x.1 c1∧K w ok b x.2 c2
section lists
variable {α β:Type} {R S:α→β→Prop}
theorem All2.length:∀ {xs:List α} {ys:List β},All2 R xs ys→xs.length = ys.length
 | [],[],_=>rfl
 | _ :: xs,_ :: ys,h=>by simp [All2.length (xs:=xs) (ys:=ys) h.2]
theorem All2.imp (h:∀ x y,R x y→S x y):∀ {xs:List α} {ys:List β},All2 R xs ys→All2 S xs ys
 | [],[],_=>trivial
 | _ :: _,_ :: _,hh=>⟨h _ _ hh.1,All2.imp h hh.2⟩
theorem All2.get:∀ {xs:List α} {ys:List β},All2 R xs ys→∀ {i:Nat} {x:α} {y:β},xs[i]? = some x→ys[i]? = some y→R x y
 | [],[],_,i,x,y,hx,_=>by simp at hx
 | a :: xs,b :: ys,h,0,x,y,hx,hy=>by
  simp at hx hy; subst hx; subst hy; exact h.1
 | a :: xs,b :: ys,h,i + 1,x,y,hx,hy=>All2.get (xs:=xs) (ys:=ys) h.2 (i:=i) (by simpa using hx) (by simpa using hy)
theorem All2.append:∀ {xs xs':List α} {ys ys':List β},All2 R xs ys→All2 R xs' ys'→All2 R (xs ++ xs') (ys ++ ys')
 | [],_,[],_,_,h=>h
 | _ :: _,_,_ :: _,_,h,h'=>⟨h.1,All2.append h.2 h'⟩
theorem All2.set:∀ {xs:List α} {ys:List β},All2 R xs ys→∀ (i:Nat) {x:α} {y:β},R x y→All2 R (xs.set i x) (ys.set i y)
 | [],[],_,_,_,_,_=>trivial
 | _ :: _,_ :: _,h,0,_,_,hr=>⟨hr,h.2⟩
 | _ :: _,_ :: _,h,i + 1,_,_,hr=>⟨h.1,All2.set h.2 i hr⟩
theorem All2.take:∀ {xs:List α} {ys:List β},All2 R xs ys→∀ n,All2 R (xs.take n) (ys.take n)
 | [],[],_,n=>by simp [All2]
 | _ :: _,_ :: _,h,0=>by simp [All2]
 | _ :: _,_ :: _,h,n + 1=>⟨h.1,All2.take h.2 n⟩
theorem All2.drop:∀ {xs:List α} {ys:List β},All2 R xs ys→∀ n,All2 R (xs.drop n) (ys.drop n)
 | [],[],_,n=>by simp [All2]
 | _ :: _,_ :: _,h,0=>h
 | _ :: _,_ :: _,h,n + 1=>All2.drop h.2 n
theorem All2.replicate {x:α} {y:β} (h:R x y):∀ n,All2 R (List.replicate n x) (List.replicate n y)
 | 0=>trivial
 | n + 1=>⟨h,All2.replicate h n⟩
theorem flat_length {sz:Nat}:∀ {css:List (List Value)},(∀ c∈css,c.length = sz)→css.flatten.length = css.length * sz
 | [],_=>by simp
 | c :: css,h=>by
  have h1:=h c (by simp)
  have h2:=flat_length (css:=css) (fun d hd=>h d (by simp [hd]))
  simp only [List.flatten_cons,List.length_append,List.length_cons,h1,h2,Nat.succ_mul]; omega
theorem flat_drop {sz:Nat}:∀ {css:List (List Value)},(∀ c∈css,c.length = sz)→∀ i,css.flatten.drop (i * sz) = (css.drop i).flatten
 | [],_,i=>by simp
 | c :: css,h,0=>by simp
 | c :: css,h,i + 1=>by
  have h1:=h c (by simp)
  have h2:=flat_drop (css:=css) (fun d hd=>h d (by simp [hd])) i
  rw [List.flatten_cons,List.drop_succ_cons,Nat.succ_mul,Nat.add_comm,← List.drop_drop]
  rw [show List.drop sz (c ++ css.flatten) = css.flatten by rw [← h1]; simp]
  exact h2
theorem flat_get {sz:Nat} {css:List (List Value)} (h:∀ c∈css,c.length = sz) {i:Nat} {c:List Value} (hc:css[i]? = some c):(css.flatten.drop (i * sz)).take sz = c:=by
 rw [flat_drop h]
 have hi:=(List.getElem?_eq_some_iff.1 hc).1
 have he:=(List.getElem?_eq_some_iff.1 hc).2
 rw [List.drop_eq_getElem_cons hi,List.flatten_cons,he]
 have:=h c (List.mem_of_getElem? hc)
 rw [← this]; simp
end lists
theorem add_add (ad:Addr) (m n:Nat):(ad.add m).add n = ad.add (m + n):=by
 unfold Addr.add
 by_cases hm:m = 0
 ·subst hm; simp
 ·by_cases hn:n = 0
  ·subst hn; simp
  ·simp [hm,hn,Nat.add_assoc]
@[simp] theorem add_block (ad:Addr) (n:Nat):(ad.add n).block = ad.block:=by unfold Addr.add; split <;> rfl
theorem add_zero' (ad:Addr):ad.add 0 = ad:=by simp [Addr.add]
theorem At.drop {w:World} {ad:Addr} {cs:List Value} (h:At w ad cs) (n:Nat):At w (ad.add n) (cs.drop n):=fun j u hu=>by
 rw [add_add]; exact h _ _ (by simpa using hu)
theorem At.take {w:World} {ad:Addr} {cs:List Value} (h:At w ad cs) (n:Nat):At w ad (cs.take n):=fun j u hu=>by
 refine h j u ?_
 rw [List.getElem?_take] at hu
 split at hu
 ·exact hu
 ·cases hu
theorem At.step {w w1:World} {ad:Addr} {cs:List Value} (h:At w ad cs) (hb:w1.heap[ad.block]? = w.heap[ad.block]?):At w1 ad cs:=fun j u hu=>by
 have:=h j u hu
 rw [World.cell?_of_block (w:=w) (w':=w1) (by rw [add_block]; exact hb)]
 exact this
theorem At.left {w:World} {ad:Addr} {a b:List Value} (h:At w ad (a ++ b)):At w ad a:=by simpa using h.take a.length
theorem At.right {w:World} {ad:Addr} {a b:List Value} (h:At w ad (a ++ b)):At w (ad.add a.length) b:=by simpa using h.drop a.length
theorem K_len {w:World} {ok:Nat→Prop}:∀ {t:Ty} {x:t.T} {cs:List Value},K w ok t x cs→cs.length = t.sz
 | .int _,_,_,h=>by simp [K] at h; simp [h,Ty.sz]
 | .bool,_,_,h=>by simp [K] at h; simp [h,Ty.sz]
 | .str,_,_,h=>by simp [K] at h; simp [h,Ty.sz]
 | .slice _ _,_,_,h=>by obtain ⟨A,c,css,rfl,_⟩:=h; simp [Ty.sz]
 | .unit,_,_,h=>by simp [K] at h; simp [h,Ty.sz]
 | .pair a b,_,_,h=>by
  obtain ⟨c1,c2,rfl,h1,h2⟩:=h
  simp [Ty.sz,K_len h1,K_len h2]
theorem K_one {w:World} {ok:Nat→Prop}:∀ {t:Ty} {x:t.T} {cs:List Value},K w ok t x cs→∀ u∈cs,u.oneCell' = true
 | .int _,_,_,h=>by simp [K] at h; simp [h,Value.oneCell']
 | .bool,_,_,h=>by simp [K] at h; simp [h,Value.oneCell']
 | .str,_,_,h=>by simp [K] at h; simp [h,Value.oneCell']
 | .slice _ _,_,_,h=>by obtain ⟨A,c,css,rfl,_⟩:=h; simp [Value.oneCell']
 | .unit,_,_,h=>by simp [K] at h; simp [h]
 | .pair a b,_,_,h=>by
  obtain ⟨c1,c2,rfl,h1,h2⟩:=h
  intro u hu
  rcases List.mem_append.1 hu with hu | hu
  ·exact K_one h1 u hu
  ·exact K_one h2 u hu
/-- Another world that has the blocks of ok. -/
theorem K_step {w w1:World} {ok ok':Nat→Prop} (hm:∀ k,ok k→k < w.heap.size→ok' k∧k < w1.heap.size∧w1.heap[k]? = w.heap[k]?):∀ {t:Ty} {x:t.T} {cs:List Value},K w ok t x cs→K w1 ok' t x cs
 | .int _,_,_,h=>h
 | .bool,_,_,h=>h
 | .str,_,_,h=>h
 | .slice _ t,xs,_,h=>by
  obtain ⟨A,c,css,rfl,h1,h2,h3,h4⟩:=h
  refine ⟨A,c,css,rfl,h1,h2,h3.imp (fun x r hx=>K_step hm hx),fun hp=>?_⟩
  obtain ⟨ad,rfl,h5,h6,h7⟩:=h4 hp
  obtain ⟨h8,h9,h10⟩:=hm _ h5 h6
  exact ⟨ad,rfl,h8,h9,h7.step h10⟩
 | .unit,_,_,h=>h
 | .pair a b,_,_,h=>by
  obtain ⟨c1,c2,rfl,h1,h2⟩:=h
  exact ⟨c1,c2,rfl,K_step hm h1,K_step hm h2⟩
theorem K_mono {w:World} {ok ok':Nat→Prop} (hm:∀ k,ok k→k < w.heap.size→ok' k) {t:Ty} {x:t.T} {cs:List Value} (h:K w ok t x cs):K w ok' t x cs :=
 K_step (fun k h1 h2=>⟨hm k h1 h2,h2,rfl⟩) h
theorem K_flat {w w1:World} {ok ok':Nat→Prop}:∀ {t:Ty} {x:t.T} {cs:List Value},t.flat = true→K w ok t x cs→K w1 ok' t x cs
 | .int _,_,_,_,h=>h
 | .bool,_,_,_,h=>h
 | .str,_,_,_,h=>h
 | .slice _ t,xs,_,hf,h=>by simp [Ty.flat] at hf
 | .unit,_,_,_,h=>h
 | .pair a b,_,_,hf,h=>by
  obtain ⟨c1,c2,rfl,h1,h2⟩:=h
  simp [Ty.flat] at hf
  exact ⟨c1,c2,rfl,K_flat hf.1 h1,K_flat hf.2 h2⟩
theorem K_zero (w:World) (ok:Nat→Prop):∀ t:Ty,K w ok t t.zero t.zcells
 | .int _=>rfl
 | .bool=>rfl
 | .str=>rfl
 | .slice _ t=>⟨none,0,[],rfl,Nat.le_refl _,Nat.zero_le _,trivial,fun h=>by simp [Ty.zero] at h⟩
 | .unit=>rfl
 | .pair a b=>⟨_,_,rfl,K_zero w ok a,K_zero w ok b⟩
theorem zcells_len (t:Ty):t.zcells.length = t.sz:=K_len (K_zero default (fun _=>True) t)
theorem val_cells {t:Ty} {cs:List Value} (h:cs.length = t.sz) (ho:∀ u∈cs,u.oneCell' = true):(t.val cs).cells.toList = cs:=by
 unfold Ty.val
 cases ht:t.agg
 ·have:t.sz = 1:=by cases t <;> simp_all [Ty.agg,Ty.sz]
  rw [this] at h
  match cs,h with
  | [u],_ =>
   have h1:=ho u (by simp)
   cases u <;> simp_all [Value.cells,Value.oneCell']
 ·simp [Value.cells]
/-- A value that says x. -/
def V (w:World) (ok:Nat→Prop) (t:Ty) (x:t.T) (v:Value):Prop:=∃ cs,K w ok t x cs∧v = t.val cs
theorem V_step {w w1:World} {ok ok':Nat→Prop} (hm:∀ k,ok k→k < w.heap.size→ok' k∧k < w1.heap.size∧w1.heap[k]? = w.heap[k]?) {t:Ty} {x:t.T} {v:Value} (h:V w ok t x v):V w1 ok' t x v:=by
 obtain ⟨cs,h1,h2⟩:=h
 exact ⟨cs,K_step hm h1,h2⟩
theorem V_cells {w:World} {ok:Nat→Prop} {t:Ty} {x:t.T} {v:Value} (h:V w ok t x v):K w ok t x v.cells.toList:=by
 obtain ⟨cs,h1,rfl⟩:=h
 rw [val_cells (K_len h1) (K_one h1)]
 exact h1
end Go.Fil
