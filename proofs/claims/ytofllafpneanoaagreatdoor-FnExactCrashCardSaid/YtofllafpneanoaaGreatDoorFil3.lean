/- What the evaluator's states say of the machine's: Sim; it moves with the world. -/
import Derived.Test.YtofllafpneanoaaGreatDoorFilBase
set_option linter.unusedVariables false
set_option linter.unusedSimpArgs false
set_option linter.unusedSectionVars false
namespace Go.Fil
open Go.RowKit
theorem sub_K {w:World} {ok:Nat→Prop} {t:Ty}:∀ {t0:Ty} {x:t0.T} {off:Nat} {y:t.T} {cs:List Value},sub t0 x off t = some y→K w ok t0 x cs→K w ok t y ((cs.drop off).take t.sz):=by
 have base:∀ {t0:Ty} {x:t0.T} {off:Nat} {y:t.T} {cs:List Value},(if off = 0 then Ty.cast? t0 t x else none) = some y→K w ok t0 x cs→K w ok t y ((cs.drop off).take t.sz):=by
  intro t0 x off y cs h hK
  split at h
  ·obtain ⟨rfl,rfl⟩:=cast?_some h
   rename_i e; subst e
   rw [← K_len hK]; simpa using hK
  ·cases h
 intro t0
 induction t0 with
 | pair a b iha ihb =>
  intro x off y cs h hK
  simp only [sub] at h
  split at h
  ·rename_i e
   refine base (t0:=.pair a b) (x:=x) ?_ hK
   rw [if_pos e.1]; exact h
  ·obtain ⟨c1,c2,rfl,h1,h2⟩:=hK
   split at h
   ·rename_i hlt
    have:=iha h h1
    have hl:=K_len h1
    have hs:off + t.sz≤c1.length:=by
     have h3:=K_len this
     simp only [List.length_take,List.length_drop] at h3
     omega
    rw [List.drop_append_of_le_length (by omega),List.take_append_of_le_length (by simp; omega)]
    exact this
   ·rename_i hlt
    have hl:=K_len h1
    have:=ihb h h2
    rw [List.drop_append]
    rw [List.drop_eq_nil_of_le (by omega),hl]
    simpa using this
 | int k=>intro x off y cs h hK; exact base (by simpa [sub] using h) hK
 | bool=>intro x off y cs h hK; exact base (by simpa [sub] using h) hK
 | str=>intro x off y cs h hK; exact base (by simpa [sub] using h) hK
 | slice e t ih=>intro x off y cs h hK; exact base (by simpa [sub] using h) hK
 | unit=>intro x off y cs h hK; exact base (by simpa [sub] using h) hK
theorem sub_KL {w:World} {ok:Nat→Prop} {t:Ty}:∀ {t0:Ty} {x:t0.T} {off:Nat} {y:t.T} {cs:List Value},sub t0 x off t = some y→KL w ok t0 x cs→KL w ok t y ((cs.drop off).take t.sz):=by
 have base:∀ {t0:Ty} {x:t0.T} {off:Nat} {y:t.T} {cs:List Value},(if off = 0 then Ty.cast? t0 t x else none) = some y→KL w ok t0 x cs→KL w ok t y ((cs.drop off).take t.sz):=by
  intro t0 x off y cs h hK
  split at h
  ·obtain ⟨rfl,rfl⟩:=cast?_some h
   rename_i e; subst e
   rw [← KL_len hK]; simpa using hK
  ·cases h
 intro t0
 induction t0 with
 | pair a b iha ihb =>
  intro x off y cs h hK
  simp only [sub] at h
  split at h
  ·rename_i e
   refine base (t0:=.pair a b) (x:=x) ?_ hK
   rw [if_pos e.1]; exact h
  ·obtain ⟨c1,c2,rfl,h1,h2⟩:=hK
   split at h
   ·rename_i hlt
    have:=iha h h1
    have hl:=KL_len h1
    have hs:off + t.sz≤c1.length:=by
     have h3:=KL_len this
     simp only [List.length_take,List.length_drop] at h3
     omega
    rw [List.drop_append_of_le_length (by omega),List.take_append_of_le_length (by simp; omega)]
    exact this
   ·rename_i hlt
    have hl:=KL_len h1
    have:=ihb h h2
    rw [List.drop_append]
    rw [List.drop_eq_nil_of_le (by omega),hl]
    simpa using this
 | int k=>intro x off y cs h hK; exact base (by simpa [sub] using h) hK
 | bool=>intro x off y cs h hK; exact base (by simpa [sub] using h) hK
 | str=>intro x off y cs h hK; exact base (by simpa [sub] using h) hK
 | slice e t ih=>intro x off y cs h hK; exact base (by simpa [sub] using h) hK
 | unit=>intro x off y cs h hK; exact base (by simpa [sub] using h) hK
theorem put_K {w:World} {ok:Nat→Prop} {t:Ty} {y:t.T} {ds:List Value} (hd:K w ok t y ds):∀ {t0:Ty} {x:t0.T} {off:Nat} {x':t0.T} {cs:List Value},put t0 x off t y = some x'→K w ok t0 x cs→off + t.sz≤t0.sz∧K w ok t0 x' (cs.take off ++ ds ++ cs.drop (off + t.sz)):=by
 have base:∀ {t0:Ty} {x:t0.T} {off:Nat} {x':t0.T} {cs:List Value},(if off = 0 then Ty.cast? t t0 y else none) = some x'→K w ok t0 x cs→off + t.sz≤t0.sz∧K w ok t0 x' (cs.take off ++ ds ++ cs.drop (off + t.sz)):=by
  intro t0 x off x' cs h hK
  split at h
  ·obtain ⟨rfl,rfl⟩:=cast?_some h
   rename_i e; subst e
   refine ⟨by omega,?_⟩
   rw [List.drop_eq_nil_of_le (by rw [K_len hK]; omega)]
   simpa using hd
  ·cases h
 intro t0
 induction t0 with
 | pair a b iha ihb =>
  intro x off x' cs h hK
  simp only [put] at h
  split at h
  ·rename_i e
   refine base (t0:=.pair a b) (x:=x) ?_ hK
   rw [if_pos e.1]; exact h
  ·obtain ⟨c1,c2,rfl,h1,h2⟩:=hK
   have hl:=K_len h1
   split at h
   ·rename_i hlt
    obtain ⟨z,hz,rfl⟩:=Option.map_eq_some_iff.1 h
    obtain ⟨h3,h4⟩:=iha hz h1
    refine ⟨by simp only [Ty.sz]; omega,_,c2,?_,h4,h2⟩
    rw [List.take_append_of_le_length (by omega),List.drop_append_of_le_length (by omega)]
    simp
   ·rename_i hlt
    obtain ⟨z,hz,rfl⟩:=Option.map_eq_some_iff.1 h
    obtain ⟨h3,h4⟩:=ihb hz h2
    refine ⟨by simp only [Ty.sz]; omega,c1,_,?_,h1,h4⟩
    rw [List.take_append,List.drop_append,List.take_of_length_le (by omega),List.drop_eq_nil_of_le (by omega),hl]
    simp [show off + t.sz - a.sz = off - a.sz + t.sz by omega]
 | int k=>intro x off y cs h hK; exact base (by simpa [put] using h) hK
 | bool=>intro x off y cs h hK; exact base (by simpa [put] using h) hK
 | str=>intro x off y cs h hK; exact base (by simpa [put] using h) hK
 | slice e t ih=>intro x off y cs h hK; exact base (by simpa [put] using h) hK
 | unit=>intro x off y cs h hK; exact base (by simpa [put] using h) hK
def blk:Value→Option Nat
 | .pointer (some a)=>some a.block
 | .slice (some a) _ _=>some a.block
 | _=>none
/-- The value or pointer of a tree, with the blocks that are its own. -/
def tupV (u:Value) (L:List Nat):Value:=.tuple (u :: L.map fun k=>Value.pointer (some ⟨k,0,none⟩)).toArray
def trB:Value→List Nat
 | .tuple vs=>vs.toList.tail.filterMap blk
 | _=>[]
def owns (v:Value) (k:Nat):Prop:=blk v = some k∨k∈trB v
theorem trB_tup (u:Value) (L:List Nat):trB (tupV u L) = L:=by
 simp only [trB,tupV,List.tail_cons]
 induction L with
 | nil=>rfl
 | cons k L ih=>simp [blk,ih]
theorem owns_tup {u:Value} {L:List Nat} {k:Nat}:owns (tupV u L) k↔k∈L:=by
 unfold owns
 rw [trB_tup]
 simp [tupV,blk]
theorem tup_inj {u u':Value} {L L':List Nat} (h:tupV u L = tupV u' L'):u = u'∧L = L':=by
 have h1:trB (tupV u L) = trB (tupV u' L'):=by rw [h]
 rw [trB_tup,trB_tup] at h1
 refine ⟨?_,h1⟩
 unfold tupV at h
 injection h with h
 have h2:=congrArg Array.toList h
 simp only [List.cons.injEq] at h2
 exact h2.1
theorem owns_ptr {a:Addr} {k:Nat}:owns (.pointer (some a)) k↔a.block = k:=by simp [owns,blk,trB]
theorem owns_of {v:Value} {k:Nat} (h:owns v k) (hv:∀ vs,v≠.tuple vs):blk v = some k:=by
 rcases h with h | h
 ·exact h
 ·cases v with
  | tuple vs=>exact absurd rfl (hv vs)
  | _=>simp [trB] at h
/-- The cells of a tree's root. -/
def rootC (w:World) (bx:Bool) (u:Value):List Value :=
 if bx then (match u with
  | .pointer (some a)=>match w.heap[a.block]? with
   | some (.cells cs _ _)=>cs.toList
   | _=>[]
  | _=>[]) else u.cells.toList
/-- The cells at a place. -/
def PC (w:World) (L:List Nat) (root:List Value) (p:List Stp) (off n:Nat) (cs:List Value):Prop :=
 (p = []∧cs = (root.drop off).take n)∨∃ g q cur e fz,PlAt w L root p off g q∧w.heap[g]? = some (.cells cur e fz)∧cs = (cur.toList.drop q).take n
def rootIn (bx:Bool) (u:Value) (L:List Nat):Prop:=bx = true→∀ a,u = .pointer (some a)→a.block∈L
theorem rootC_step {w w1:World} {bx:Bool} {u:Value} {L:List Nat} (h:∀ k∈L,w1.heap[k]? = w.heap[k]?) (hr:rootIn bx u L):rootC w1 bx u = rootC w bx u:=by
 unfold rootC
 cases bx with
 | false=>rfl
 | true =>
  cases u with
  | pointer a=>cases a with
   | none=>rfl
   | some a=>simp only [h _ (hr rfl a rfl)]
  | _=>rfl
theorem PC.step {w w1:World} {L:List Nat} (h:∀ k∈L,w1.heap[k]? = w.heap[k]?) {root cs:List Value} {p:List Stp} {off n:Nat} (hp:PC w L root p off n cs):PC w1 L root p off n cs:=by
 rcases hp with hp | ⟨g,q,cur,e,fz,h1,h2,h3⟩
 ·exact .inl hp
 ·exact .inr ⟨g,q,cur,e,fz,h1.step h,(h g h1.mem).trans h2,h3⟩
/-- Rows that are nil, all of them. -/
def KN:(t:Ty)→t.T→List Value→Prop
 | .int k,n,cs=>cs = [.int k n]
 | .bool,b,cs=>cs = [.bool b]
 | .str,s,cs=>cs = [.string s]
 | .slice _ _,xs,cs=>xs = []∧cs = [.slice none 0 0]
 | .unit,_,cs=>cs = []
 | .pair a b,x,cs=>∃ c1 c2,cs = c1 ++ c2∧KN a x.1 c1∧KN b x.2 c2
def Ow (β:Nat→Value) (ob:List (Option Ob)) (k:Nat):Prop:=∃ s o,St.obj ob s = some o∧owns (β s) k
/-- Where data may lie: what came in, or is new; not in the call's own open blocks; fresh data: what is new. -/
def okD (w:World) (B:Nat) (okA:Nat→Prop) (β:Nat→Value) (ob:List (Option Ob)) (fr:Bool) (k:Nat):Prop:=(okA k∨B≤k)∧¬ Ow β ob k∧(fr = true→B≤k∧Plain w k)
def AllV (w:World) (ok:Bool→Nat→Prop) (l:List Dt) (vs:List Value):Prop:=All2 (fun d u=>V w (ok d.fr) d.t d.x u) l vs
/-- The rows that the call may mark: their blocks, and the world in which they came in. -/
class Lin where
 w0:World
 M:Nat→Prop
 N:Nat→Prop
 rv:Value
 O:Nat→Nat→Prop
 T:Nat→Prop:=fun _=>False
section
variable [Lin]
def RepA (w:World) (G:Bool→Nat→Prop) (β:Nat→Value) (ob:List (Option Ob)):A→Value→Prop
 | .und,_=>True
 | .nil,v=>v = .slice none 0 0
 | .d t fr x,v=>V w (G fr) t x v
 | .tup l,v=>∃ vs,v = .tuple vs.toArray∧AllV w G l vs
 | .rp t fr x,v=>∃ ad cs,v = .pointer (some ad)∧K w (G fr) t x cs∧At w ad cs∧G fr ad.block∧ad.block < w.heap.size
 | .ptr s off _,v=>∃ g,β s = .pointer (some ⟨g,0,none⟩)∧v = .pointer (some ⟨g,off,none⟩)∧∃ t0 fr x,St.obj ob s = some (.box t0 fr x)
 | .ep s i off _,v=>∃ g n c,β s = .slice (some ⟨g,0,none⟩) n c∧∃ e te fr xs,St.obj ob s = some (.arr e te fr xs)∧0≤i∧i.toNat < xs.length∧v = .pointer (some ⟨g,i.toNat * te.sz + off,none⟩)
 | .own s,v=>v = β s∧∃ e te fr xs,St.obj ob s = some (.arr e te fr xs)
 | .no,v=>v = undef
 | .lin t x,v=>VL Lin.w0 Lin.M t x v
 | .lp t x,v=>∃ ad cs,v = .pointer (some ad)∧KL Lin.w0 Lin.M t x cs∧At Lin.w0 ad cs∧Lin.M ad.block
 | .xr,v=>v = Lin.rv∧∃ e te xs,St.obj ob 0 = some (.row e te xs)
 | .xp i off _,v=>∃ ad n c,Lin.rv = .slice (some ad) n c∧∃ e te xs,St.obj ob 0 = some (.row e te xs)∧0≤i∧i.toNat < xs.length∧v = .pointer (some (ad.add (i.toNat * te.sz + off)))
 | .fnv f c y,v=>∃ ad cs,v = .func (.func f) #[] #[.pointer (some ad)]∧K w (G false) c y cs∧At w ad cs∧G false ad.block∧ad.block < w.heap.size
 | .od c t x,v=>V w (fun k=>Lin.O c k∧G false k) t x v
 | .orp c t x,v=>∃ ad cs,v = .pointer (some ad)∧K w (fun k=>Lin.O c k∧G false k) t x cs∧At w ad cs∧(Lin.O (c + 100) ad.block∧G false ad.block)∧ad.block < w.heap.size
 | .lb t x,v=>∃ ad cs,v = .pointer (some ad)∧KL Lin.w0 Lin.M t x cs∧At w ad cs∧G false ad.block∧ad.block < w.heap.size
 | .pt s p off _,v=>∃ u L bx sh t0 x,β s = tupV u L∧St.obj ob s = some (.tr bx sh t0 x)∧((p = []∧bx = true∧∃ g,u = .pointer (some ⟨g,0,none⟩)∧v = .pointer (some ⟨g,off,none⟩))∨rootIn bx u L∧∃ g q,PlAt w L (rootC w bx u) p off g q∧v = .pointer (some ⟨g,q,none⟩))
 | .vw s p off t,v=>∃ u L bx sh t0 x cs,β s = tupV u L∧St.obj ob s = some (.tr bx sh t0 x)∧rootIn bx u L∧PC w L (rootC w bx u) p off t.sz cs∧v = t.val cs
 | .z t x,v=>∃ cs,v = t.val cs∧KN t x cs
 | .tp s t,v=>∃ u L bx sh t0 x,β s = tupV u L∧St.obj ob s = some (.tr bx sh t0 x)∧rootIn bx u L∧v = tupOf t (rootC w bx u)
 | .pb _ off _,v=>∃ ad,v = .pointer (some (ad.add off))∧At w ad Lin.rv.cells.toList∧G false ad.block∧ad.block < w.heap.size∧Lin.rv≠undef
 | .pv _,v=>v = Lin.rv∧Lin.rv≠undef
def RepO (w:World) (B:Nat) (G:Bool→Nat→Prop) (v:Value):Ob→Prop
 | .box t fr x=>∃ g cs e,v = .pointer (some ⟨g,0,none⟩)∧B≤g∧w.heap[g]? = some (.cells cs e (0,0))∧K w (G fr) t x cs.toList
 | .arr e t fr xs=>∃ css:List (List Value),w.ownsRow B e t.sz v xs.length css.flatten∧All2 (fun x c=>K w (G fr) t x c) xs css
 | .row e t xs=>v = undef∧∃ A c,∃ css:List (List Value),Lin.rv = .slice A xs.length c∧(xs.length≤c∧xs.length≤maxLen)∧All2 (fun x r=>K w (fun _=>False) t x r) xs css∧(0 < xs.length→∃ ad,A = some ad∧Lin.N ad.block∧Plain w ad.block∧At w ad css.flatten)
 | .tr bx sh t x=>∃ u L,v = tupV u L∧L.Nodup∧(∀ k∈L,(B≤k∨Lin.T k)∧k < w.heap.size∧Plain w k) ∧
   if bx then ∃ g cs e L',L = g :: L'∧u = .pointer (some ⟨g,0,none⟩)∧w.heap[g]? = some (.cells cs e (0,0))∧KS w (G false) sh t x cs.toList L'
   else ∃ cs,u = t.val cs∧KS w (G false) sh t x cs L
structure Sim (B:Nat) (okA:Nat→Prop) (w0:World) (β:Nat→Value) (st:St) (a:Act) (w:World):Prop where
 len:a.tmps.size = st.tm.length
 tm:∀ i A,st.tm[i]? = some A→RepA w (okD w B okA β st.ob) β st.ob A (a.tmps.getD i undef)
 ob:∀ s o,St.obj st.ob s = some o→RepO w B (okD w B okA β st.ob) (β s) o
 apart:∀ s s' o o' k,St.obj st.ob s = some o→St.obj st.ob s' = some o'→owns (β s) k→owns (β s') k→s = s'
 below:BelowM (fun k=>Lin.M k∨Lin.N k∨Lin.T k) B w0 w
 mrk:Mark Lin.M Lin.w0 w
 lt:∀ k,Lin.M k→k < B∧¬ okA k
 one:∀ s e t xs,St.obj st.ob s = some (.row e t xs)→s = 0
 ltN:∀ k,Lin.N k→k < B∧¬ okA k∧¬ Lin.M k
 ltT:∀ k,Lin.T k→k < B∧¬ okA k∧¬ Lin.M k∧¬ Lin.N k
 size:B≤w.heap.size
 arg:∀ k,okA k→k < B
 pin:Lin.rv≠undef→∀ bx sh t x,St.obj st.ob 0 = some (.tr bx sh t x)→∃ L,β 0 = tupV Lin.rv L
 defers:a.defers = []
/-- Only new blocks: what a call may do to the world. -/
structure Grow (w w1:World):Prop where
 below:Below w.heap.size w w1
theorem Grow.refl (w:World):Grow w w:=⟨Below.refl _ _⟩
/-- The moves of data. -/
def Mv (w w1:World) (G G1:Bool→Nat→Prop):Prop:=∀ fr k,G fr k→k < w.heap.size→G1 fr k∧k < w1.heap.size∧w1.heap[k]? = w.heap[k]?
theorem Mv.V {w w1:World} {G G1:Bool→Nat→Prop} (h:Mv w w1 G G1) {fr:Bool} {t:Ty} {x:t.T} {v:Value} (hv:V w (G fr) t x v):V w1 (G1 fr) t x v:=V_step (h fr) hv
theorem Mv.AllV {w w1:World} {G G1:Bool→Nat→Prop} (h:Mv w w1 G G1) {l:List Dt} {vs:List Value} (hv:AllV w G l vs):AllV w1 G1 l vs:=All2.imp (fun _ _ hx=>h.V hx) hv
/-- Object s stays what it is to those who point at it. -/
def Same (ob ob1:List (Option Ob)) (s:Nat):Prop:=match St.obj ob s,St.obj ob1 s with
 | some (.box ..),some (.box ..)=>True
 | some (.arr e t _ xs),some (.arr e' t' _ xs')=>e = e'∧t = t'∧xs.length = xs'.length
 | some (.row e t xs),some (.row e' t' xs')=>e = e'∧t = t'∧xs.length = xs'.length
 | some (.tr bx sh t x),o'=>o' = some (.tr bx sh t x)
 | none,_=>True
 | _,_=>False
/-- A tree stays what it is. -/
def Keeps (w w1:World) (β:Nat→Value) (ob:List (Option Ob)) (s:Nat):Prop:=∀ bx sh t x,St.obj ob s = some (.tr bx sh t x)→∀ k,owns (β s) k→w1.heap[k]? = w.heap[k]?
theorem Same.refl (ob:List (Option Ob)) (s:Nat):Same ob ob s:=by
 unfold Same
 cases h:St.obj ob s with
 | none=>trivial
 | some o=>cases o <;> simp
theorem Same.of_eq {ob ob1:List (Option Ob)} {s:Nat} (h:St.obj ob1 s = St.obj ob s):Same ob ob1 s:=by
 unfold Same; rw [h]
 cases h:St.obj ob s with
 | none=>trivial
 | some o=>cases o <;> simp
theorem RepA.step {w w1:World} {G G1:Bool→Nat→Prop} {β β1:Nat→Value} {ob ob1:List (Option Ob)} (h:Mv w w1 G G1) {A:A} {v:Value} (hs:∀ s,A.site = some s→β1 s = β s∧Same ob ob1 s∧Keeps w w1 β ob s) (hv:RepA w G β ob A v):RepA w1 G1 β1 ob1 A v:=by
 cases A with
 | und=>trivial
 | nil=>exact hv
 | d t fr x=>exact h.V hv
 | tup l=>obtain ⟨vs,h1,h2⟩:=hv; exact ⟨vs,h1,h.AllV h2⟩
 | rp t fr x =>
  obtain ⟨ad,cs,h1,h2,h3,h4,h5⟩:=hv
  obtain ⟨h6,h7,h8⟩:=h fr _ h4 h5
  exact ⟨ad,cs,h1,K_step (h fr) h2,h3.step h8,h6,h7⟩
 | ptr s off t =>
  obtain ⟨hb,hsm,hkp⟩:=hs s rfl
  obtain ⟨g,h1,h2,t0,fr,x,h3⟩:=hv
  refine ⟨g,hb.trans h1,h2,?_⟩
  unfold Same at hsm
  rw [h3] at hsm
  cases h4:St.obj ob1 s with
  | none=>simp [h4] at hsm
  | some o=>cases o with
   | box t0 fr x=>exact ⟨t0,fr,x,rfl⟩
   | _=>simp [h4] at hsm
 | ep s i off t =>
  obtain ⟨hb,hsm,hkp⟩:=hs s rfl
  obtain ⟨g,n,c,h1,e,te,fr,xs,h3,h5,h6,h2⟩:=hv
  refine ⟨g,n,c,hb.trans h1,?_⟩
  unfold Same at hsm
  rw [h3] at hsm
  cases h4:St.obj ob1 s with
  | none=>simp [h4] at hsm
  | some o=>cases o with
   | arr e' t' fr' xs' =>
    simp [h4] at hsm
    obtain ⟨rfl,rfl,hl⟩:=hsm
    exact ⟨e,te,fr',xs',rfl,h5,by omega,h2⟩
   | _=>simp [h4] at hsm
 | no=>exact hv
 | z t x=>exact hv
 | pt s p off t =>
  obtain ⟨hb,hsm,hkp⟩:=hs s rfl
  obtain ⟨u,L,bx,sh,t0,x,h1,h3,h2⟩:=hv
  have hL:∀ k∈L,w1.heap[k]? = w.heap[k]?:=fun k hk=>hkp _ _ _ _ h3 k (by rw [h1]; exact owns_tup.2 hk)
  unfold Same at hsm
  rw [h3] at hsm
  refine ⟨u,L,bx,sh,t0,x,hb.trans h1,hsm,?_⟩
  rcases h2 with h2 | ⟨hr,g,q,h4,h5⟩
  ·exact .inl h2
  ·exact .inr ⟨hr,g,q,by rw [rootC_step hL hr]; exact h4.step hL,h5⟩
 | vw s p off t =>
  obtain ⟨hb,hsm,hkp⟩:=hs s rfl
  obtain ⟨u,L,bx,sh,t0,x,cs,h1,h3,hr,h2,h4⟩:=hv
  have hL:∀ k∈L,w1.heap[k]? = w.heap[k]?:=fun k hk=>hkp _ _ _ _ h3 k (by rw [h1]; exact owns_tup.2 hk)
  unfold Same at hsm
  rw [h3] at hsm
  exact ⟨u,L,bx,sh,t0,x,cs,hb.trans h1,hsm,hr,by rw [rootC_step hL hr]; exact h2.step hL,h4⟩
 | tp s t =>
  obtain ⟨hb,hsm,hkp⟩:=hs s rfl
  obtain ⟨u,L,bx,sh,t0,x,h1,h3,hr,h4⟩:=hv
  have hL:∀ k∈L,w1.heap[k]? = w.heap[k]?:=fun k hk=>hkp _ _ _ _ h3 k (by rw [h1]; exact owns_tup.2 hk)
  unfold Same at hsm
  rw [h3] at hsm
  exact ⟨u,L,bx,sh,t0,x,hb.trans h1,hsm,hr,by rw [rootC_step hL hr]; exact h4⟩
 | pb s off t =>
  obtain ⟨ad,h2,h4,h5,h6,h1⟩:=hv
  obtain ⟨h7,h8,h9⟩:=h false _ h5 h6
  exact ⟨ad,h2,h4.step h9,h7,h8,h1⟩
 | pv t=>exact hv
 | xr =>
  obtain ⟨hb,hsm,hkp⟩:=hs 0 rfl
  obtain ⟨h1,e,te,xs,h3⟩:=hv
  refine ⟨h1,?_⟩
  unfold Same at hsm
  rw [h3] at hsm
  cases h4:St.obj ob1 0 with
  | none=>simp [h4] at hsm
  | some o=>cases o with
   | row e' t' xs'=>exact ⟨e',t',xs',rfl⟩
   | _=>simp [h4] at hsm
 | xp i off t =>
  obtain ⟨hb,hsm,hkp⟩:=hs 0 rfl
  obtain ⟨ad,n,c,h1,e,te,xs,h3,h5,h6,h2⟩:=hv
  refine ⟨ad,n,c,h1,?_⟩
  unfold Same at hsm
  rw [h3] at hsm
  cases h4:St.obj ob1 0 with
  | none=>simp [h4] at hsm
  | some o=>cases o with
   | row e' t' xs' =>
    simp [h4] at hsm
    obtain ⟨rfl,rfl,hl⟩:=hsm
    exact ⟨e,te,xs',rfl,h5,by omega,h2⟩
   | _=>simp [h4] at hsm
 | fnv f c y =>
  obtain ⟨ad,cs,h1,h2,h3,h4,h5⟩:=hv
  obtain ⟨h6,h7,h8⟩:=h false _ h4 h5
  exact ⟨ad,cs,h1,K_step (h false) h2,h3.step h8,h6,h7⟩
 | od c t x=>exact V_step (fun k hk hlt=>by
   obtain ⟨h6,h7,h8⟩:=h false k hk.2 hlt
   exact ⟨⟨hk.1,h6⟩,h7,h8⟩) hv
 | orp c t x =>
  obtain ⟨ad,cs,h1,h2,h3,h4,h5⟩:=hv
  obtain ⟨h6,h7,h8⟩:=h false _ h4.2 h5
  exact ⟨ad,cs,h1,K_step (fun k hk hlt=>by
   obtain ⟨h6,h7,h8⟩:=h false k hk.2 hlt
   exact ⟨⟨hk.1,h6⟩,h7,h8⟩) h2,h3.step h8,⟨h4.1,h6⟩,h7⟩
 | lin t x=>exact hv
 | lp t x=>exact hv
 | lb t x =>
  obtain ⟨ad,cs,h1,h2,h3,h4,h5⟩:=hv
  obtain ⟨h6,h7,h8⟩:=h false _ h4 h5
  exact ⟨ad,cs,h1,h2,h3.step h8,h6,h7⟩
 | own s =>
  obtain ⟨hb,hsm,hkp⟩:=hs s rfl
  obtain ⟨h1,e,te,fr,xs,h3⟩:=hv
  refine ⟨h1.trans hb.symm,?_⟩
  unfold Same at hsm
  rw [h3] at hsm
  cases h4:St.obj ob1 s with
  | none=>simp [h4] at hsm
  | some o=>cases o with
   | arr e' t' fr' xs'=>exact ⟨e',t',fr',xs',rfl⟩
   | _=>simp [h4] at hsm
theorem own_lt' {w:World} {B e sz n:Nat} {v:Value} {xs:List Value} (h:w.ownsRow B e sz v n xs) {k:Nat} (hk:blk v = some k):B≤k∧k < w.heap.size:=by
 refine h.lt k ?_
 rcases h.2 with ⟨rfl,_⟩ | ⟨g,cap,cur,rfl,_⟩
 ·simp [blk] at hk
 ·simpa [blk,Value.ownBlock] using hk
theorem own_blk {w:World} {B e sz n:Nat} {v:Value} {xs:List Value} (h:w.ownsRow B e sz v n xs):v.ownBlock = blk v:=by
 rcases h.2 with ⟨rfl,_⟩ | ⟨g,cap,cur,rfl,_⟩ <;> rfl
def Ob.isTr:Ob→Bool
 | .tr ..=>true
 | _=>false
theorem RepO.lt' {w:World} {B:Nat} {G:Bool→Nat→Prop} {v:Value} {o:Ob} (h:RepO w B G v o) (hnt:o.isTr = false) {k:Nat} (hk:blk v = some k):B≤k∧k < w.heap.size:=by
 cases o with
 | tr bx sh t x=>cases hnt
 | box t fr x =>
  obtain ⟨g,cs,e,rfl,h1,h2,_⟩:=h
  have:g = k:=by simpa [blk] using hk
  subst this
  exact ⟨h1,(Array.getElem?_eq_some_iff.1 h2).1⟩
 | arr e t fr xs =>
  obtain ⟨css,h1,_⟩:=h
  exact own_lt' h1 hk
 | row e t xs =>
  obtain ⟨rfl,_⟩:=h
  simp [blk,undef] at hk
theorem RepO.own {w:World} {B:Nat} {G:Bool→Nat→Prop} {v:Value} {o:Ob} (h:RepO w B G v o) (hnt:o.isTr = false) {k:Nat} (hk:owns v k):blk v = some k:=by
 rcases hk with hk | hk
 ·exact hk
 ·exfalso
  cases o with
  | tr bx sh t x=>cases hnt
  | box t fr x =>
   obtain ⟨g,cs,e,rfl,_⟩:=h
   simp [trB] at hk
  | arr e t fr xs =>
   obtain ⟨css,h1,_⟩:=h
   rcases h1.2 with ⟨rfl,_⟩ | ⟨g,cap,cur,rfl,_⟩ <;> simp [trB] at hk
  | row e t xs =>
   obtain ⟨rfl,_⟩:=h
   simp [trB,undef] at hk
theorem RepO.lt {w:World} {B:Nat} {G:Bool→Nat→Prop} {v:Value} {o:Ob} (h:RepO w B G v o) {k:Nat} (hk:owns v k):(B≤k∨Lin.T k)∧k < w.heap.size:=by
 by_cases hnt:o.isTr = false
 ·have:=h.lt' hnt (h.own hnt hk)
  exact ⟨.inl this.1,this.2⟩
 ·cases o with
  | tr bx sh t x =>
   obtain ⟨u,L,rfl,_,h1,_⟩:=h
   have:=h1 k (owns_tup.1 hk)
   exact ⟨this.1,this.2.1⟩
  | _=>simp [Ob.isTr] at hnt
theorem RepO.step {w w1:World} {B:Nat} {G G1:Bool→Nat→Prop} {v:Value} {o:Ob} (hN:∀ k,Lin.N k→w1.heap[k]? = w.heap[k]?) (hm:Mv w w1 G G1) (hb:∀ k,owns v k→w1.heap[k]? = w.heap[k]?) (h:RepO w B G v o):RepO w1 B G1 v o:=by
 cases o with
 | box t fr x =>
  obtain ⟨g,cs,e,rfl,h1,h2,h3⟩:=h
  exact ⟨g,cs,e,rfl,h1,(hb g (.inl rfl)).trans h2,K_step (hm fr) h3⟩
 | arr e t fr xs =>
  obtain ⟨css,h1,h2⟩:=h
  refine ⟨css,⟨h1.1,?_⟩,h2.imp (fun x c hx=>K_step (hm fr) hx)⟩
  rcases h1.2 with h3 | ⟨g,cap,cur,rfl,h4,h5,h6⟩
  ·exact .inl h3
  ·exact .inr ⟨g,cap,cur,rfl,h4,(hb g (.inl rfl)).trans h5,h6⟩
 | row e t xs =>
  obtain ⟨h0,A,c,css,h1,hlc,h2,h3⟩:=h
  refine ⟨h0,A,c,css,h1,hlc,h2.imp (fun x r hx=>K_step (fun k hk _=>hk.elim) hx),fun hp=>?_⟩
  obtain ⟨ad,h4,h5,⟨cs,e',h6⟩,h7⟩:=h3 hp
  have:=hN _ h5
  exact ⟨ad,h4,h5,⟨cs,e',this.trans h6⟩,h7.step this⟩
 | tr bx sh t x =>
  obtain ⟨u,L,rfl,h1,h2,h3⟩:=h
  have hL:∀ k∈L,w1.heap[k]? = w.heap[k]?:=fun k hk=>hb k (owns_tup.2 hk)
  refine ⟨u,L,rfl,h1,fun k hk=>?_,?_⟩
  ·obtain ⟨h4,h5,cs,e,h6⟩:=h2 k hk
   have h7:=(hL k hk).trans h6
   exact ⟨h4,(Array.getElem?_eq_some_iff.1 h7).1,cs,e,h7⟩
  ·cases bx with
   | true =>
    obtain ⟨g,cs,e,L',rfl,h4,h5,h6⟩:=h3
    exact ⟨g,cs,e,L',rfl,h4,(hL g (by simp)).trans h5,KS_step (hm false) (fun k hk=>hL k (by simp [hk])) h6⟩
   | false =>
    obtain ⟨cs,h4,h5⟩:=h3
    exact ⟨cs,h4,KS_step (hm false) hL h5⟩
theorem RepO.stepNR {w w1:World} {B:Nat} {G G1:Bool→Nat→Prop} {v:Value} {o:Ob} (hnr:∀ e t xs,o≠.row e t xs) (hm:Mv w w1 G G1) (hb:∀ k,owns v k→w1.heap[k]? = w.heap[k]?) (h:RepO w B G v o):RepO w1 B G1 v o:=by
 cases o with
 | row e t xs=>exact absurd rfl (hnr e t xs)
 | box t fr x =>
  obtain ⟨g,cs,e,rfl,h1,h2,h3⟩:=h
  exact ⟨g,cs,e,rfl,h1,(hb g (.inl rfl)).trans h2,K_step (hm fr) h3⟩
 | arr e t fr xs =>
  obtain ⟨css,h1,h2⟩:=h
  refine ⟨css,⟨h1.1,?_⟩,h2.imp (fun x c hx=>K_step (hm fr) hx)⟩
  rcases h1.2 with h3 | ⟨g,cap,cur,rfl,h4,h5,h6⟩
  ·exact .inl h3
  ·exact .inr ⟨g,cap,cur,rfl,h4,(hb g (.inl rfl)).trans h5,h6⟩
 | tr bx sh t x =>
  obtain ⟨u,L,rfl,h1,h2,h3⟩:=h
  have hL:∀ k∈L,w1.heap[k]? = w.heap[k]?:=fun k hk=>hb k (owns_tup.2 hk)
  refine ⟨u,L,rfl,h1,fun k hk=>?_,?_⟩
  ·obtain ⟨h4,h5,cs,e,h6⟩:=h2 k hk
   have h7:=(hL k hk).trans h6
   exact ⟨h4,(Array.getElem?_eq_some_iff.1 h7).1,cs,e,h7⟩
  ·cases bx with
   | true =>
    obtain ⟨g,cs,e,L',rfl,h4,h5,h6⟩:=h3
    exact ⟨g,cs,e,L',rfl,h4,(hL g (by simp)).trans h5,KS_step (hm false) (fun k hk=>hL k (by simp [hk])) h6⟩
   | false =>
    obtain ⟨cs,h4,h5⟩:=h3
    exact ⟨cs,h4,KS_step (hm false) hL h5⟩
theorem Sim.ow_lt {B okA w0 β st a w} (h:Sim B okA w0 β st a w) {k:Nat} (hk:Ow β st.ob k):(B≤k∨Lin.T k)∧k < w.heap.size:=by
 obtain ⟨s,o,h1,h2⟩:=hk
 exact (h.ob s o h1).lt h2
theorem Plain.step {w w1:World} {k:Nat} (h:Plain w k) (hb:w1.heap[k]? = w.heap[k]?):Plain w1 k:=by
 obtain ⟨cs,e,hc⟩:=h
 exact ⟨cs,e,hb.trans hc⟩
/-- Data moves where only owned blocks change, and the owned ones are the elder owned ones or new. -/
theorem okD_mv {w w1:World} {B:Nat} {okA:Nat→Prop} {β β1:Nat→Value} {ob ob1:List (Option Ob)} (hb:∀ k,¬ Ow β ob k→k < w.heap.size→w1.heap[k]? = w.heap[k]?) (hs:w.heap.size≤w1.heap.size) (ho:∀ k,k < w.heap.size→Ow β1 ob1 k→Ow β ob k):Mv w w1 (okD w B okA β ob) (okD w1 B okA β1 ob1) :=
 fun fr k hk hlt=>⟨⟨hk.1,fun h=>hk.2.1 (ho k hlt h),fun h=>⟨(hk.2.2 h).1,(hk.2.2 h).2.step (hb k hk.2.1 hlt)⟩⟩,by omega,hb k hk.2.1 hlt⟩
theorem Sim.mlt {B okA w0 β st a w} (h:Sim B okA w0 β st a w) {k:Nat} (hk:Lin.M k):k < w.heap.size:=Nat.lt_of_lt_of_le (h.lt k hk).1 h.size
theorem Sim.dM {B okA w0 β st a w} (h:Sim B okA w0 β st a w) {ob:List (Option Ob)} {β':Nat→Value} {fr:Bool} {k:Nat} (hk:okD w B okA β' ob fr k):¬ Lin.M k:=fun hm=>by
 have:=h.lt k hm
 rcases hk.1 with h1 | h1
 ·exact this.2 h1
 ·omega
theorem Sim.owM {B okA w0 β st a w} (h:Sim B okA w0 β st a w) {k:Nat} (hk:Ow β st.ob k):¬ Lin.M k:=fun hm=>by
 have h1:=(h.lt k hm).1
 rcases (h.ow_lt hk).1 with h2 | h2
 ·omega
 ·exact (h.ltT k h2).2.2.1 hm
theorem Sim.nlt {B okA w0 β st a w} (h:Sim B okA w0 β st a w) {k:Nat} (hk:Lin.N k):k < w.heap.size:=Nat.lt_of_lt_of_le (h.ltN k hk).1 h.size
theorem Sim.dN {B okA w0 β st a w} (h:Sim B okA w0 β st a w) {ob:List (Option Ob)} {β':Nat→Value} {fr:Bool} {k:Nat} (hk:okD w B okA β' ob fr k):¬ Lin.N k:=fun hm=>by
 have:=h.ltN k hm
 rcases hk.1 with h1 | h1
 ·exact this.2.1 h1
 ·omega
theorem Sim.owN {B okA w0 β st a w} (h:Sim B okA w0 β st a w) {k:Nat} (hk:Ow β st.ob k):¬ Lin.N k:=fun hm=>by
 have h1:=(h.ltN k hm).1
 rcases (h.ow_lt hk).1 with h2 | h2
 ·omega
 ·exact (h.ltT k h2).2.2.2 hm
theorem Sim.keeps {B okA w0 β st a w} (h:Sim B okA w0 β st a w) {w1:World} (hg:Grow w w1) (s:Nat):Keeps w w1 β st.ob s:=fun _ _ _ _ ho k hk=>hg.below.block k ((h.ob s _ ho).lt hk).2
theorem Sim.mv {B okA w0 β st a w} (h:Sim B okA w0 β st a w) {w1:World} (hg:Grow w w1):Mv w w1 (okD w B okA β st.ob) (okD w1 B okA β st.ob) :=
 okD_mv (fun k _ hlt=>hg.below.block k hlt) hg.below.size (fun _ _ h=>h)
theorem Sim.grow {B okA w0 β st a w} (h:Sim B okA w0 β st a w) {w1:World} (hg:Grow w w1):Sim B okA w0 β st a w1 where
 len:=h.len
 tm:=fun i A hA=>(h.tm i A hA).step (h.mv hg) (fun s _=>⟨rfl,Same.refl _ _,h.keeps hg s⟩)
 ob:=fun s o ho=>(h.ob s o ho).step (fun k hk=>hg.below.block k (h.nlt hk)) (h.mv hg) (fun k hk=>hg.below.block k ((h.ob s o ho).lt hk).2)
 apart:=h.apart
 below:=h.below.trans (hg.below.mono h.size)
 mrk:=h.mrk.keep (fun k hk=>hg.below.block k (h.mlt hk))
 lt:=h.lt
 one:=h.one
 ltN:=h.ltN
 ltT:=h.ltT
 size:=Nat.le_trans h.size hg.below.size
 arg:=h.arg
 pin:=h.pin
 defers:=h.defers
theorem getD_set {α:Type} (xs:Array α) (d i:Nat) (v u:α):(xs.setIfInBounds d v).getD i u = if d = i∧d < xs.size then v else xs.getD i u:=by
 simp only [Array.getD_eq_getD_getElem?,Array.getElem?_setIfInBounds]
 by_cases h:d = i
 ·subst h
  by_cases h2:d < xs.size
  ·simp [h2]
  ·simp [h2]
 ·simp [h]
theorem Sim.set {B okA w0 β st a w} (h:Sim B okA w0 β st a w) {A:A} {v:Value} (hv:RepA w (okD w B okA β st.ob) β st.ob A v) (dst:Option Tmp):Sim B okA w0 β (st.set dst A) (a.put dst v) w:=by
 cases dst with
 | none=>exact h
 | some d =>
  refine { len:=?_,tm:=?_,ob:=h.ob,apart:=h.apart,below:=h.below,mrk:=h.mrk,lt:=h.lt,one:=h.one,ltN:=h.ltN,ltT:=h.ltT,size:=h.size,arg:=h.arg,pin:=h.pin,defers:=h.defers }
  ·simp [St.set,Act.put,h.len]
  ·intro i A' hA
   simp only [St.set,Act.put] at hA ⊢
   rw [getD_set]
   rw [List.getElem?_set] at hA
   by_cases e:d = i
   ·subst e
    by_cases hd:d < st.tm.length
    ·simp [hd] at hA
     subst hA
     simp [h.len,hd]
     exact hv
    ·simp [hd] at hA
   ·simp [e] at hA
    simp [e]
    have:=h.tm i A' hA
    simpa [Array.getD_eq_getD_getElem?] using this
theorem Sim.val {B okA w0 β st a w} (h:Sim B okA w0 β st a w) (x:Operand):RepA w (okD w B okA β st.ob) β st.ob (st.val x) (a.eval x):=by
 cases x with
 | tmp t =>
  simp only [St.val,Act.eval]
  rw [List.getD_eq_getElem?_getD]
  cases ht:st.tm[t]? with
  | none=>trivial
  | some A=>exact h.tm t A ht
 | const v =>
  simp only [St.val,Act.eval]
  cases v with
  | int k n=>exact ⟨_,rfl,rfl⟩
  | bool b=>exact ⟨_,rfl,rfl⟩
  | string s=>exact ⟨_,rfl,rfl⟩
  | slice A n c =>
   cases A with
   | none =>
    match n,c with
    | 0,0=>exact rfl
    | 0,_ + 1=>trivial
    | _ + 1,_=>trivial
   | some _=>trivial
  | _=>trivial
 | global g=>trivial
 | func f=>trivial
end
end Go.Fil
