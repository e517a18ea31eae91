/- HouseAll. -/
import Derived.Test.YtofllafpneanoaaGreatDoorPlainAll
import Derived.Test.YtofllafpneanoaaGreatDoorFunN3
import Derived.Test.YtofllafpneanoaaGreatDoorFunH
/- The house and the world: what stands alone. -/
namespace F5
set_option linter.unusedSimpArgs false
open Go Go.Fil Go.Proofs Go.Fil.Cf
set_option maxRecDepth 100000
set_option linter.unusedVariables false
/-- An answer, and what it says. -/
def Says (o:Option Bool) (P:Prop):Prop:=∃ b,o = some b∧(b = true↔P)
theorem Says.f {P:Prop} (h:¬ P):Says (some false) P:=⟨false,rfl,no_iff h⟩
theorem Says.t {P:Prop} (h:P):Says (some true) P:=⟨true,rfl,fun _=>h,fun _=>rfl⟩
theorem Says.d {p:Prop} [Decidable p]:Says (some (decide p)) p:=⟨_,rfl,decide_eq_true_iff⟩
theorem Says.imp {o:Option Bool} {P Q:Prop} (h:Says o P) (e:P↔Q):Says o Q:=by
 obtain ⟨b,h1,h2⟩:=h
 exact ⟨b,h1,h2.trans e⟩
theorem Says.br {c:Bool} {a b:Option Bool} {P:Prop} (h1:c = true→Says a P) (h2:c = false→Says b P):Says (Fil.br c a b) P:=by
 cases c
 ·exact h2 rfl
 ·exact h1 rfl
theorem Says.bind {o:Option Bool} {f:Bool→Option Bool} {P Q:Prop} (h:Says o P) (h1:P→Says (f true) Q) (h2:¬ P→Says (f false) Q):Says (o.bind f) Q:=by
 obtain ⟨b,rfl,e⟩:=h
 cases b
 ·exact h2 (fun hp=>by cases e.2 hp)
 ·exact h1 (e.1 rfl)
/-- First this, then the rest. -/
theorem Says.gate {o:Option Bool} {a:Option Bool} {P Q:Prop} (h:Says o P) (h1:P→Says a Q):Says (o.bind fun y=>Fil.br (!y) (some false) a) (P∧Q) :=
 h.bind (fun hp=>by
  show Says (Fil.br (!true) _ _) _
  rw [br_false (c:=!true) rfl]
  exact (h1 hp).imp ⟨fun hq=>⟨hp,hq⟩,fun hq=>hq.2⟩) (fun hp=>by
  show Says (Fil.br (!false) _ _) _
  rw [br_true (c:=!false) rfl]
  exact Says.f (fun h=>hp h.1))
theorem Says.same {o o':Option Bool} {P Q:Prop} (h:Says o P) (h':Says o' Q) (e:P↔Q):o = o':=by
 obtain ⟨b,rfl,h2⟩:=h
 obtain ⟨c,rfl,h4⟩:=h'
 rw [Bool.eq_iff_iff.2 (h2.trans (e.trans h4.symm))]
theorem says_in (K:Nat) (a b c:Int):Says (Zh K a b c) (b≤a∧a≤c):=by
 rw [l1In_eq]
 exact ⟨_,rfl,by simp⟩
theorem says_isIn (K:Nat) (a b c:Int):Says (Zr K a b c) (b≤a∧a≤c):=by
 rw [isIn_eq]
 exact ⟨_,rfl,by simp⟩
/-- A loop that asks the same of each. -/
theorem says_loop {n:Nat} (hn:n≤2000000) {L:Nat→Int→Option Bool} {P:Nat→Prop} {Q:Prop}
  (step:∀ k (i:Nat),i < n→(P i→L (k + 1) (i:Int) = L k ((i:Int) + 1))∧(¬ P i→L (k + 1) (i:Int) = some false))
  (stop:∀ k,Says (L (k + 1) (n:Int)) Q):∀ (q i k:Nat),i + q = n→q < k→Says (L k (i:Int)) ((∀ j,i≤j→j < n→P j)∧Q)
 | 0,i,k + 1,hi,hk=>by
  obtain rfl:i = n:=by omega
  exact (stop k).imp ⟨fun h=>⟨fun j h1 h2=>absurd h2 (by omega),h⟩,fun h=>h.2⟩
 | q + 1,i,k + 1,hi,hk=>by
  obtain ⟨s1,s2⟩:=step k i (by omega)
  by_cases hp:P i
  ·rw [s1 hp]
   have:=says_loop hn step stop q (i + 1) k (by omega) (by omega)
   rw [Int.natCast_add] at this
   refine this.imp ⟨fun h=>⟨fun j h1 h2=>?_,h.2⟩,fun h=>⟨fun j h1 h2=>h.1 j (by omega) h2,h.2⟩⟩
   by_cases e:j = i
   ·subst e; exact hp
   ·exact h.1 j (by omega) h2
  ·rw [s2 hp]
   exact Says.f (fun h=>hp (h.1 i (Nat.le_refl _) (by omega)))
 | _,_,0,_,h=>absurd h (Nat.not_lt_zero _)
theorem says_loop0 {K n:Nat} (hK:maxLen + 2≤K) (hn:n≤2000000) {L:Nat→Int→Option Bool} {P:Nat→Prop} {Q:Prop}
  (step:∀ k (i:Nat),i < n→(P i→L (k + 1) (i:Int) = L k ((i:Int) + 1))∧(¬ P i→L (k + 1) (i:Int) = some false))
  (stop:∀ k,Says (L (k + 1) (n:Int)) Q):Says (L K 0) ((∀ j,j < n→P j)∧Q):=by
 have hm:maxLen = 2 ^ 63 - 1:=rfl
 have:=says_loop hn step stop n 0 K (by omega) (by omega)
 exact this.imp ⟨fun h=>⟨fun j hj=>h.1 j (by omega) hj,h.2⟩,fun h=>⟨fun j _ hj=>h.1 j hj,h.2⟩⟩
theorem ite_t {p:Prop} [Decidable p] {a b:Bool}:((if p then a else b) = true)↔(p→a = true)∧(¬ p→b = true):=by split <;> simp [*]
theorem not_t {a b:Prop} [Decidable a] [Decidable b]:(!(decide a && decide b)) = true↔¬ (a∧b):=by
 by_cases ha:a <;> by_cases hb:b <;> simp [ha,hb]
theorem sockId (K:Nat) (n:Int):Z3u K n = some (decide (1≤n) && decide (n≤9999)):=by rw [Z3u.eq,isIn_eq,Option.bind_some]
theorem since_i (K:Nat) (n:Int):Z52 K n = some (decide (0≤n) && decide (n≤100000)):=by rw [Z52.eq,isIn_eq,Option.bind_some]
theorem since_s (K:Nat) (n:Int):Z31 K n = some (decide (0≤n) && decide (n≤100000)):=by rw [Z31.eq,l1In_eq,Option.bind_some]
def SockP (s:Z8):Prop:=(1≤s.1∧s.1≤9999)∧(1≤s.2.1∧s.2.1≤2)∧(1≤s.2.2.1∧s.2.2.1≤3)∧s.2.2.2.2.1.length≤240∧(s.2.1 = 1→s.2.2.2.2.2.2.1 = 0∧s.2.2.2.2.2.2.2.1 = 0)∧(s.2.1≠1→(0≤s.2.2.2.2.2.2.1∧s.2.2.2.2.2.2.1≤2)∧0≤s.2.2.2.2.2.2.2.1∧s.2.2.2.2.2.2.2.1≤s.2.2.2.2.2.1.length)
theorem sockOk_s (K:Nat) (s:Z8):Says (Zcu K s) (SockP s):=by
 rw [Zcu.eq]
 simp only [l1In_eq,Option.bind_some,br_some]
 refine ⟨_,rfl,?_⟩
 unfold SockP
 simp only [ite_t,not_t,beq_iff_eq,Bool.and_eq_true,decide_eq_true_eq,Bool.false_eq_true]
 grind
theorem sockOk_i (K:Nat) (s:Z8):Says (Zd5 K s) (SockP s):=by
 rw [Zd5.eq]
 simp only [isIn_eq,sockId,Option.bind_some,br_some]
 refine ⟨_,rfl,?_⟩
 unfold SockP
 simp only [ite_t,not_t,beq_iff_eq,Bool.and_eq_true,decide_eq_true_eq,Bool.false_eq_true]
 grind
theorem note_eq (K:Nat) (n:Zu):Zcv K n = Z8t K n∧∃ b,Z8t K n = some b:=by
 rw [Zcv.eq,Z8t.eq]
 simp only [l1In_eq,isIn_eq,Option.bind_some,br_some]
 exact ⟨trivial,_,rfl⟩
abbrev sockAt (l:List Z8) (j:Nat):Z8:=List.getD l j Z5.zero
def SocksP (l:List Z8):Prop:=(∀ j,j < l.length→SockP (sockAt l j)∧(0 < j→(sockAt l (j - 1)).1 < (sockAt l j).1))∧l.length≤12
theorem socksOk_s {K:Nat} (hK:maxLen + 2≤K) (l:List Z8) (hl:l.length≤1048576):Says (Zbn K l) (SocksP l):=by
 rw [Zbn.eq]
 refine says_loop0 (L:=fun k v=>Z36 K k l v) hK (n:=l.length) (by omega) (P:=fun j=>SockP (sockAt l j)∧(0 < j→(sockAt l (j - 1)).1 < (sockAt l j).1)) ?_ ?_
 ·intro k i hi
  obtain ⟨b,b1,b2⟩:=sockOk_s K (sockAt l i)
  have hin:(decide (0≤(i:Int)) && decide ((i:Int) < ((l.length:Nat):Int))) = true:=by simp; omega
  show (_→Z36 K (k + 1) l (i:Int) = _)∧(_→Z36 K (k + 1) l (i:Int) = _)
  rw [Z36.step,br_true (decide_eq_true (by omega)),hin,br_t,br_t,show (i:Int).toNat = i by omega,b1,Option.bind_some,wrap_id (k:=(i:Int) + 1) (by omega) (by omega),wrap_id (k:=(i:Int) - 1) (by omega) (by omega)]
  cases b with
  | false=>exact ⟨fun h=>absurd (b2.2 h.1) (by simp),fun _=>rfl⟩
  | true =>
   have hs:=b2.1 rfl
   rw [br_false (c:=!true) rfl]
   by_cases h0:i = 0
   ·subst h0
    rw [br_false (by decide)]
    exact ⟨fun _=>rfl,fun h=>absurd ⟨hs,fun h=>absurd h (by omega)⟩ h⟩
   ·rw [br_true (decide_eq_true (by omega)),br_true (by simp; omega),show ((i:Int) - 1).toNat = i - 1 by omega]
    by_cases hlt:(sockAt l (i - 1)).1 < (sockAt l i).1
    ·rw [br_false]
     rotate_left
     ·exact decide_eq_false (fun h=>absurd (show (sockAt l (i - 1)).1 ≥ (sockAt l i).1 from h) (by omega))
     exact ⟨fun _=>rfl,fun h=>absurd ⟨hs,fun _=>hlt⟩ h⟩
    ·rw [br_true]
     rotate_left
     ·exact decide_eq_true (show (sockAt l (i - 1)).1 ≥ (sockAt l i).1 by omega)
     exact ⟨fun h=>absurd (h.2 (by omega)) hlt,fun _=>rfl⟩
 ·intro k
  show Says (Z36 K (k + 1) l (l.length:Int)) _
  rw [Z36.step,br_false (decide_eq_false (by omega))]
  exact Says.d.imp (by omega)
theorem socksOk_i {K:Nat} (hK:maxLen + 2≤K) (l:List Z8) (hl:l.length≤1048576):Says (Zby K l) (SocksP l):=by
 rw [Zby.eq]
 refine says_loop0 (L:=fun k v=>Z37 K k l v) hK (n:=l.length) (by omega) (P:=fun j=>SockP (sockAt l j)∧(0 < j→(sockAt l (j - 1)).1 < (sockAt l j).1)) ?_ ?_
 ·intro k i hi
  obtain ⟨b,b1,b2⟩:=sockOk_i K (sockAt l i)
  have hin:(decide (0≤(i:Int)) && decide ((i:Int) < ((l.length:Nat):Int))) = true:=by simp; omega
  show (_→Z37 K (k + 1) l (i:Int) = _)∧(_→Z37 K (k + 1) l (i:Int) = _)
  rw [Z37.step,br_true (decide_eq_true (by omega)),hin,br_t,show (i:Int).toNat = i by omega,b1,Option.bind_some,wrap_id (k:=(i:Int) + 1) (by omega) (by omega),wrap_id (k:=(i:Int) - 1) (by omega) (by omega)]
  cases b with
  | false=>exact ⟨fun h=>absurd (b2.2 h.1) (by simp),fun _=>rfl⟩
  | true =>
   have hs:=b2.1 rfl
   rw [br_false (c:=!true) rfl]
   by_cases h0:i = 0
   ·subst h0
    rw [br_false (by decide)]
    exact ⟨fun _=>rfl,fun h=>absurd ⟨hs,fun h=>absurd h (by omega)⟩ h⟩
   ·rw [br_true (decide_eq_true (by omega)),br_true (by simp; omega),show ((i:Int) - 1).toNat = i - 1 by omega]
    by_cases hlt:(sockAt l (i - 1)).1 < (sockAt l i).1
    ·rw [br_false]
     rotate_left
     ·exact decide_eq_false (fun h=>absurd (show (sockAt l i).1≤(sockAt l (i - 1)).1 from h) (by omega))
     exact ⟨fun _=>rfl,fun h=>absurd ⟨hs,fun _=>hlt⟩ h⟩
    ·rw [br_true]
     rotate_left
     ·exact decide_eq_true (show (sockAt l i).1≤(sockAt l (i - 1)).1 by omega)
     exact ⟨fun h=>absurd (h.2 (by omega)) hlt,fun _=>rfl⟩
 ·intro k
  show Says (Z37 K (k + 1) l (l.length:Int)) _
  rw [Z37.step,br_false (decide_eq_false (by omega))]
  exact Says.d.imp (by omega)
end F5
/- The house and the world: the way, askers, lines. -/
namespace F5
set_option linter.unusedSimpArgs false
open Go Go.Fil Go.Proofs Go.Fil.Cf
set_option maxRecDepth 100000
set_option linter.unusedVariables false
abbrev packAt (l:List Zs) (j:Nat):Zs:=List.getD l j Za.zero
def WayP (l:List Zs):Prop:=(∀ j,j < l.length→(0≤(packAt l j).1∧(packAt l j).1≤1)∧(packAt l j).2.1.length≤400)∧l.length≤12
theorem wayOk_s {K:Nat} (hK:maxLen + 2≤K) (l:List Zs) (hl:l.length≤1048576):Says (Zdr K l) (WayP l):=by
 rw [Zdr.eq]
 refine says_loop0 (L:=fun k v=>Z50 K k l v) hK (n:=l.length) (by omega) (P:=fun j=>(0≤(packAt l j).1∧(packAt l j).1≤1)∧(packAt l j).2.1.length≤400) ?_ ?_
 ·intro k i hi
  have hin:(decide (0≤(i:Int)) && decide ((i:Int) < ((l.length:Nat):Int))) = true:=by simp; omega
  show (_→Z50 K (k + 1) l (i:Int) = _)∧(_→Z50 K (k + 1) l (i:Int) = _)
  rw [Z50.step,br_true (decide_eq_true (by omega)),hin,br_t,br_t,show (i:Int).toNat = i by omega,l1In_eq,Option.bind_some,wrap_id (k:=(i:Int) + 1) (by omega) (by omega)]
  by_cases a1:0≤(packAt l i).1∧(packAt l i).1≤1
  ·rw [in_t a1,br_false (c:=!true) rfl]
   by_cases a2:(packAt l i).2.1.length≤400
   ·rw [br_false]
    rotate_left
    ·exact decide_eq_false (fun h=>absurd (show (((packAt l i).2.1.length:Nat):Int) > 400 from h) (by omega))
    exact ⟨fun _=>rfl,fun h=>absurd ⟨a1,a2⟩ h⟩
   ·rw [br_true]
    rotate_left
    ·exact decide_eq_true (show (((packAt l i).2.1.length:Nat):Int) > 400 by omega)
    exact ⟨fun h=>absurd h.2 a2,fun _=>rfl⟩
  ·rw [in_f a1,br_true (c:=!false) rfl]
   exact ⟨fun h=>absurd h.1 a1,fun _=>rfl⟩
 ·intro k
  show Says (Z50 K (k + 1) l (l.length:Int)) _
  rw [Z50.step,br_false (decide_eq_false (by omega))]
  exact Says.d.imp (by omega)
theorem wayOk_i {K:Nat} (hK:maxLen + 2≤K) (l:List Zs) (hl:l.length≤1048576):Says (Zdv K l) (WayP l):=by
 rw [Zdv.eq]
 refine says_loop0 (L:=fun k v=>Z51 K k l v) hK (n:=l.length) (by omega) (P:=fun j=>(0≤(packAt l j).1∧(packAt l j).1≤1)∧(packAt l j).2.1.length≤400) ?_ ?_
 ·intro k i hi
  have hin:(decide (0≤(i:Int)) && decide ((i:Int) < ((l.length:Nat):Int))) = true:=by simp; omega
  show (_→Z51 K (k + 1) l (i:Int) = _)∧(_→Z51 K (k + 1) l (i:Int) = _)
  rw [Z51.step,br_true (decide_eq_true (by omega)),hin,br_t,show (i:Int).toNat = i by omega,isIn_eq,Option.bind_some,wrap_id (k:=(i:Int) + 1) (by omega) (by omega)]
  by_cases a1:0≤(packAt l i).1∧(packAt l i).1≤1
  ·rw [in_t a1,br_false (c:=!true) rfl]
   by_cases a2:(packAt l i).2.1.length≤400
   ·rw [br_false]
    rotate_left
    ·exact decide_eq_false (fun h=>absurd (show (((packAt l i).2.1.length:Nat):Int) > 400 from h) (by omega))
    exact ⟨fun _=>rfl,fun h=>absurd ⟨a1,a2⟩ h⟩
   ·rw [br_true]
    rotate_left
    ·exact decide_eq_true (show (((packAt l i).2.1.length:Nat):Int) > 400 by omega)
    exact ⟨fun h=>absurd h.2 a2,fun _=>rfl⟩
  ·rw [in_f a1,br_true (c:=!false) rfl]
   exact ⟨fun h=>absurd h.1 a1,fun _=>rfl⟩
 ·intro k
  show Says (Z51 K (k + 1) l (l.length:Int)) _
  rw [Z51.step,br_false (decide_eq_false (by omega))]
  exact Says.d.imp (by omega)
theorem strEq_d (a b:ByteArray):strEq a b = decide (a = b):=by
 by_cases h:a = b
 ·rw [(strEq_iff a b).2 h]; simp [h]
 ·rw [strEq_f h]; simp [h]
theorem beqB_d (a b:ByteArray):(a == b) = decide (a = b):=by
 by_cases h:a = b
 ·rw [(beqB_iff a b).2 h]; simp [h]
 ·cases e:(a == b)
  ·simp [h]
  ·exact absurd ((beqB_iff a b).1 e) h
theorem eqAsker (x y:Ze):eqT Z4 x y = (x.1 == y.1 && ((x.2.1 == y.2.1) && (x.2.2.1 == y.2.2.1 && (x.2.2.2.1 == y.2.2.2.1 && (x.2.2.2.2.1 == y.2.2.2.2.1 && ((x.2.2.2.2.2.1 == y.2.2.2.2.2.1) && (x.2.2.2.2.2.2.1 == y.2.2.2.2.2.2.1 && (x.2.2.2.2.2.2.2.1 == y.2.2.2.2.2.2.2.1 && true)))))))):=rfl
def eps:ByteArray:=⟨#[]⟩
def AskP (K:Nat) (a:Ze):Prop:=(1≤a.1∧a.1≤9999)∧(0≤a.2.2.1∧a.2.2.1≤4)∧(a.2.2.1 = 0→a.2.1 = eps)∧(a.2.2.1≠0→Z7n K a.2.1 = some true) ∧
 (a.2.2.1≠2→a.2.2.2.1 = 0∧a.2.2.2.2.1 = 0∧a.2.2.2.2.2.1 = eps)∧(a.2.2.1 < 3→a.2.2.2.2.2.2.1 = 0∧a.2.2.2.2.2.2.2.1 = 0) ∧
 (a.2.2.1 = 2→(0≤a.2.2.2.1∧a.2.2.2.1≤65535)∧(0≤a.2.2.2.2.1∧a.2.2.2.2.1≤100000)∧Z7m K a.2.2.2.2.2.1 = some true) ∧
 (3≤a.2.2.1→(1≤a.2.2.2.2.2.2.1∧a.2.2.2.2.2.2.1≤9999)∧1≤a.2.2.2.2.2.2.2.1)
theorem askOk_s {K:Nat} (hK:maxLen + 2≤K) (a:Ze) (h1:a.2.1.size≤1048576) (h2:a.2.2.2.2.2.1.size≤1048576):Says (Zbo K a) (AskP K a):=by
 obtain ⟨n,n1,n2,_⟩:=name hK a.2.1 h1
 obtain ⟨t,t1,t2,_⟩:=textOk hK a.2.2.2.2.2.1 h2
 rw [Zbo.eq]
 simp only [l1In_eq,since_s,n1,t1,Option.bind_some,br_some]
 refine ⟨_,rfl,?_⟩
 unfold AskP
 rw [n2,t2]
 simp only [ite_t,not_t,strEq_d,beq_iff_eq,bne_iff_ne,Bool.and_eq_true,Bool.not_eq_true',decide_eq_true_eq,decide_eq_false_iff_not,Bool.false_eq_true,Option.some.injEq,eps]
 generalize a.2.2.1 = st
 by_cases s0:st = 0
 ·subst s0; cases n <;> cases t <;> simp <;> grind
 by_cases s1:st = 1
 ·subst s1; cases n <;> cases t <;> simp <;> grind
 by_cases s2:st = 2
 ·subst s2; cases n <;> cases t <;> simp <;> grind
 by_cases s3:st = 3
 ·subst s3; cases n <;> cases t <;> simp <;> grind
 by_cases s4:st = 4
 ·subst s4; cases n <;> cases t <;> simp <;> grind
 have hno:¬ (0≤st∧st≤4):=by omega
 simp only [s0,s1,s2,s3,s4,hno]
 grind
theorem askOk_i {K:Nat} (hK:maxLen + 2≤K) (a:Ze) (h1:a.2.1.size≤1048576) (h2:a.2.2.2.2.2.1.size≤1048576):Says (Zbz K a) (AskP K a):=by
 obtain ⟨n,n1,n2,_⟩:=name hK a.2.1 h1
 obtain ⟨t,t1,t2,_⟩:=textOk hK a.2.2.2.2.2.1 h2
 rw [Zbz.eq]
 simp only [isIn_eq,sockId,since_i,wordI,n2,t2,eqAsker,Option.bind_some,br_some]
 refine ⟨_,rfl,?_⟩
 unfold AskP
 rw [n2,t2]
 simp only [ite_t,not_t,beqB_d,beq_iff_eq,bne_iff_ne,Bool.and_eq_true,Bool.not_eq_true',decide_eq_true_eq,decide_eq_false_iff_not,Bool.false_eq_true,Option.some.injEq,eps]
 generalize a.2.2.1 = st
 by_cases s0:st = 0
 ·subst s0; cases n <;> cases t <;> simp <;> grind
 by_cases s1:st = 1
 ·subst s1; cases n <;> cases t <;> simp <;> grind
 by_cases s2:st = 2
 ·subst s2; cases n <;> cases t <;> simp <;> grind
 by_cases s3:st = 3
 ·subst s3; cases n <;> cases t <;> simp <;> grind
 by_cases s4:st = 4
 ·subst s4; cases n <;> cases t <;> simp <;> grind
 have hno:¬ (0≤st∧st≤4):=by omega
 simp only [s0,s1,s2,s3,s4,hno]
 grind
theorem line_eq {K:Nat} (hK:maxLen + 2≤K) (l:Zn) (h1:l.2.1.size≤1048576):Zcw K l = Z8v K l∧∃ b,Z8v K l = some b:=by
 obtain ⟨n,n1,n2,_⟩:=name hK l.2.1 h1
 rw [Zcw.eq,Z8v.eq]
 simp only [l1In_eq,isIn_eq,since_s,since_i,sockId,n1,n2,Option.bind_some,br_some]
 refine ⟨?_,_,rfl⟩
 congr 1
 rw [Bool.eq_iff_iff]
 simp only [ite_t,not_t,beq_iff_eq,bne_iff_ne,Bool.and_eq_true,Bool.not_eq_true',decide_eq_true_eq,decide_eq_false_iff_not,Bool.false_eq_true]
 cases n <;> (try simp only [Bool.false_eq_true]) <;> grind
theorem lent_eq (K:Nat) (a:Ze) (l:Zn):Z82 K a l = Z67 K a l∧∃ b,Z67 K a l = some b:=by
 rw [Z82.eq,Z67.eq]
 simp only [Option.bind_some,br_some]
 refine ⟨?_,_,rfl⟩
 congr 1
 rw [Bool.eq_iff_iff]
 simp only [ite_t,not_t,strEq_d,beq_iff_eq,bne_iff_ne,Bool.and_eq_true,Bool.not_eq_true',decide_eq_true_eq,decide_eq_false_iff_not,Bool.false_eq_true]
 grind
end F5
/- The house: its lists. -/
namespace F5
set_option linter.unusedSimpArgs false
open Go Go.Fil Go.Proofs Go.Fil.Cf
set_option maxRecDepth 100000
set_option linter.unusedVariables false
abbrev lnAt (l:List Zn) (j:Nat):Zn:=List.getD l j Zb.zero
abbrev akAt (l:List Ze) (j:Nat):Ze:=List.getD l j Z4.zero
theorem lnAt_mem {l:List Zn} {i:Nat} (hi:i < l.length):lnAt l i∈l:=by
 rw [lnAt,List.getD_eq_getElem?_getD,List.getElem?_eq_getElem hi]
 exact List.getElem_mem hi
theorem akAt_mem {l:List Ze} {i:Nat} (hi:i < l.length):akAt l i∈l:=by
 rw [akAt,List.getD_eq_getElem?_getD,List.getElem?_eq_getElem hi]
 exact List.getElem_mem hi
theorem lineAt_same (K:Nat) (l:List Zn) (n:Int):∀ (k:Nat) (v:Int),Z1j K k l n v = Z32 K k l n v
 | 0,v=>by rw [Z1j.zero,Z32.zero]
 | k + 1,v=>by rw [Z1j.step,Z32.step,Zdj.eq,Option.bind_some,lineAt_same K l n k]
theorem askAt_same (K:Nat) (l:List Ze) (n:Int):∀ (k:Nat) (v:Int),Z1g K k l n v = Z2s K k l n v
 | 0,v=>by rw [Z1g.zero,Z2s.zero]
 | k + 1,v=>by rw [Z1g.step,Z2s.step,Zcj.eq,Option.bind_some,askAt_same K l n k]
/-- Where a number stands: nowhere, or at its place. -/
def Found (m:Nat) (id:Nat→Int) (n:Int) (r:Int):Prop:=(r < 0∧∀ j,j < m→id j≠n)∨∃ i:Nat,i < m∧r = (i:Int)∧id i = n
theorem lineAt_run {K:Nat} (l:List Zn) (hl:l.length≤1048576) (n:Int):∀ (q i k:Nat),i + q = l.length→q < k→(∀ j,j < i→(lnAt l j).1≠n)→∃ r:Int,Z32 K k l n (i:Int) = some r∧Found l.length (fun j=>(lnAt l j).1) n r
 | 0,i,k + 1,hi,hk,hb=>by
  rw [Z32.step,br_false (decide_eq_false (by omega))]
  exact ⟨-1,rfl,.inl ⟨by omega,fun j hj=>hb j (by omega)⟩⟩
 | q + 1,i,k + 1,hi,hk,hb=>by
  rw [Z32.step,br_true (decide_eq_true (by omega)),br_true (by simp; omega),show (i:Int).toNat = i by omega,wrap_id (k:=(i:Int) + 1) (by omega) (by omega)]
  by_cases e:(lnAt l i).1 = n
  ·rw [br_true (beq_true e)]
   exact ⟨_,rfl,.inr ⟨i,by omega,rfl,e⟩⟩
  ·rw [br_false (beq_false e)]
   have:=lineAt_run (K:=K) l hl n q (i + 1) k (by omega) (by omega) (fun j hj=>by
    by_cases ej:j = i
    ·subst ej; exact e
    ·exact hb j (by omega))
   rwa [Int.natCast_add] at this
 | _,_,0,_,h,_=>absurd h (Nat.not_lt_zero _)
theorem lineAt {K:Nat} (hK:maxLen + 2≤K) (l:List Zn) (hl:l.length≤1048576) (n:Int):∃ r:Int,Z7l K l n = some r∧Z5o K l n = some r∧Found l.length (fun j=>(lnAt l j).1) n r:=by
 have hm:maxLen = 2 ^ 63 - 1:=rfl
 obtain ⟨r,r1,r2⟩:=lineAt_run (K:=K) l hl n l.length 0 K (by omega) (by omega) (fun j hj=>absurd hj (by omega))
 refine ⟨r,by rw [Z7l.eq]; exact r1,?_,r2⟩
 rw [Z5o.eq,Z5c.eq,lineAt_same]
 exact congrArg (fun o=>Option.bind o fun y=>some y) r1
theorem askAt_run {K:Nat} (l:List Ze) (hl:l.length≤1048576) (n:Int):∀ (q i k:Nat),i + q = l.length→q < k→(∀ j,j < i→(akAt l j).1≠n)→∃ r:Int,Z2s K k l n (i:Int) = some r∧Found l.length (fun j=>(akAt l j).1) n r
 | 0,i,k + 1,hi,hk,hb=>by
  rw [Z2s.step,br_false (decide_eq_false (by omega))]
  exact ⟨-1,rfl,.inl ⟨by omega,fun j hj=>hb j (by omega)⟩⟩
 | q + 1,i,k + 1,hi,hk,hb=>by
  rw [Z2s.step,br_true (decide_eq_true (by omega)),br_true (by simp; omega),show (i:Int).toNat = i by omega,wrap_id (k:=(i:Int) + 1) (by omega) (by omega)]
  by_cases e:(akAt l i).1 = n
  ·rw [br_true (beq_true e)]
   exact ⟨_,rfl,.inr ⟨i,by omega,rfl,e⟩⟩
  ·rw [br_false (beq_false e)]
   have:=askAt_run (K:=K) l hl n q (i + 1) k (by omega) (by omega) (fun j hj=>by
    by_cases ej:j = i
    ·subst ej; exact e
    ·exact hb j (by omega))
   rwa [Int.natCast_add] at this
 | _,_,0,_,h,_=>absurd h (Nat.not_lt_zero _)
theorem askAt {K:Nat} (hK:maxLen + 2≤K) (l:List Ze) (hl:l.length≤1048576) (n:Int):∃ r:Int,Z9n K l n = some r∧Z9q K l n = some r∧Found l.length (fun j=>(akAt l j).1) n r:=by
 have hm:maxLen = 2 ^ 63 - 1:=rfl
 obtain ⟨r,r1,r2⟩:=askAt_run (K:=K) l hl n l.length 0 K (by omega) (by omega) (fun j hj=>absurd hj (by omega))
 refine ⟨r,by rw [Z9n.eq]; exact r1,?_,r2⟩
 rw [Z9q.eq,Z4y.eq,askAt_same]
 exact congrArg (fun o=>Option.bind o fun y=>some y) r1
structure HS (h:Z3):Prop where
 la:h.2.2.2.2.2.1.length≤1048576
 ll:h.2.2.2.2.2.2.1.length≤1048576
 lc:h.2.2.2.1.length≤1048576
 a1:∀ a∈h.2.2.2.2.2.1,a.2.1.size≤1048576
 a2:∀ a∈h.2.2.2.2.2.1,a.2.2.2.2.2.1.size≤1048576
 l1:∀ a∈h.2.2.2.2.2.2.1,a.2.1.size≤1048576
 c1:∀ d∈h.2.2.2.1,d.1.size≤1048576
def LnP (K:Nat) (h:Z3) (j:Nat):Prop:=Z8v K (lnAt h.2.2.2.2.2.2.1 j) = some true∧(0 < j→(lnAt h.2.2.2.2.2.2.1 (j - 1)).1 < (lnAt h.2.2.2.2.2.2.1 j).1)
def AkP (K:Nat) (h:Z3) (j:Nat):Prop:=AskP K (akAt h.2.2.2.2.2.1 j)∧(0 < j→(akAt h.2.2.2.2.2.1 (j - 1)).1 < (akAt h.2.2.2.2.2.1 j).1)∧(∀ m,m < h.2.2.2.2.2.2.1.length→(lnAt h.2.2.2.2.2.2.1 m).1≠(akAt h.2.2.2.2.2.1 j).1)∧((akAt h.2.2.2.2.2.1 j).2.2.1 = 2→(akAt h.2.2.2.2.2.1 j).2.2.2.1 < h.2.2.2.2.2.2.2.1∧∀ j',j' < j→(akAt h.2.2.2.2.2.1 j').2.2.1 = 2→(akAt h.2.2.2.2.2.1 j').2.2.2.1≠(akAt h.2.2.2.2.2.1 j).2.2.2.1)
def HTail (h:Z3):Prop:=h.2.2.2.2.2.1.length≤6∧h.2.2.2.2.2.2.1.length≤9∧0≤h.2.2.2.2.2.2.2.1∧h.2.2.2.2.2.2.2.1≤65535
theorem lines_s {K:Nat} (hK:maxLen + 2≤K) (h:Z3) (hs:HS h):Says (Z1z K K 0 h) ((∀ j,j < h.2.2.2.2.2.2.1.length→LnP K h j)∧HTail h):=by
 have hll:=hs.ll
 refine says_loop0 (L:=fun k v=>Z1z K k v h) hK (n:=h.2.2.2.2.2.2.1.length) (by omega) (P:=LnP K h) ?_ ?_
 ·intro k i hi
  obtain ⟨e,b,b1⟩:=line_eq hK (lnAt h.2.2.2.2.2.2.1 i) (hs.l1 _ (lnAt_mem hi))
  have hin:(decide (0≤(i:Int)) && decide ((i:Int) < ((h.2.2.2.2.2.2.1.length:Nat):Int))) = true:=by simp; omega
  show (_→Z1z K (k + 1) (i:Int) h = _)∧(_→Z1z K (k + 1) (i:Int) h = _)
  unfold LnP
  rw [Z1z.step,br_true (decide_eq_true (by omega)),hin,br_t,br_t,show (i:Int).toNat = i by omega,e,b1,Option.bind_some,wrap_id (k:=(i:Int) + 1) (by omega) (by omega),wrap_id (k:=(i:Int) - 1) (by omega) (by omega)]
  cases b with
  | false=>exact ⟨fun h=>absurd h.1 (by simp),fun _=>rfl⟩
  | true =>
   rw [br_false (c:=!true) rfl]
   by_cases h0:i = 0
   ·subst h0
    rw [br_false (by decide)]
    exact ⟨fun _=>rfl,fun h=>absurd ⟨rfl,fun h=>absurd h (by omega)⟩ h⟩
   ·rw [br_true (decide_eq_true (by omega)),br_true (by simp; omega),show ((i:Int) - 1).toNat = i - 1 by omega]
    by_cases hlt:(lnAt h.2.2.2.2.2.2.1 (i - 1)).1 < (lnAt h.2.2.2.2.2.2.1 i).1
    ·rw [br_false]
     rotate_left
     ·exact decide_eq_false (fun g=>absurd (show (lnAt h.2.2.2.2.2.2.1 (i - 1)).1 ≥ (lnAt h.2.2.2.2.2.2.1 i).1 from g) (by omega))
     exact ⟨fun _=>rfl,fun h=>absurd ⟨rfl,fun _=>hlt⟩ h⟩
    ·rw [br_true]
     rotate_left
     ·exact decide_eq_true (show (lnAt h.2.2.2.2.2.2.1 (i - 1)).1 ≥ (lnAt h.2.2.2.2.2.2.1 i).1 by omega)
     exact ⟨fun h=>absurd (h.2 (by omega)) hlt,fun _=>rfl⟩
 ·intro k
  show Says (Z1z K (k + 1) (h.2.2.2.2.2.2.1.length:Int) h) _
  rw [Z1z.step,br_false (decide_eq_false (by omega)),l1In_eq,Option.bind_some]
  refine Says.br (fun c1=>Says.br (fun c2=>⟨_,rfl,?_⟩) (fun c2=>Says.f ?_)) (fun c1=>Says.f ?_)
  ·have c1:=of_decide_eq_true c1
   have c2:=of_decide_eq_true c2
   unfold HTail
   simp
   omega
  ·have c2:=of_decide_eq_false c2
   intro g
   have:=g.2.1
   omega
  ·have c1:=of_decide_eq_false c1
   intro g
   have:=g.1
   omega
theorem lines_i {K:Nat} (hK:maxLen + 2≤K) (h:Z3) (hs:HS h):Says (Z25 K K 0 h) ((∀ j,j < h.2.2.2.2.2.2.1.length→LnP K h j)∧True):=by
 have hll:=hs.ll
 refine says_loop0 (L:=fun k v=>Z25 K k v h) hK (n:=h.2.2.2.2.2.2.1.length) (by omega) (P:=LnP K h) ?_ ?_
 ·intro k i hi
  obtain ⟨e,b,b1⟩:=line_eq hK (lnAt h.2.2.2.2.2.2.1 i) (hs.l1 _ (lnAt_mem hi))
  have hin:(decide (0≤(i:Int)) && decide ((i:Int) < ((h.2.2.2.2.2.2.1.length:Nat):Int))) = true:=by simp; omega
  show (_→Z25 K (k + 1) (i:Int) h = _)∧(_→Z25 K (k + 1) (i:Int) h = _)
  unfold LnP
  rw [Z25.step,br_true (decide_eq_true (by omega)),hin,br_t,show (i:Int).toNat = i by omega,b1,Option.bind_some,wrap_id (k:=(i:Int) + 1) (by omega) (by omega),wrap_id (k:=(i:Int) - 1) (by omega) (by omega)]
  cases b with
  | false=>exact ⟨fun h=>absurd h.1 (by simp),fun _=>rfl⟩
  | true =>
   rw [br_false (c:=!true) rfl]
   by_cases h0:i = 0
   ·subst h0
    rw [br_false (by decide)]
    exact ⟨fun _=>rfl,fun h=>absurd ⟨rfl,fun h=>absurd h (by omega)⟩ h⟩
   ·rw [br_true (decide_eq_true (by omega)),br_true (by simp; omega),show ((i:Int) - 1).toNat = i - 1 by omega]
    by_cases hlt:(lnAt h.2.2.2.2.2.2.1 (i - 1)).1 < (lnAt h.2.2.2.2.2.2.1 i).1
    ·rw [br_false]
     rotate_left
     ·exact decide_eq_false (fun g=>absurd (show (lnAt h.2.2.2.2.2.2.1 i).1≤(lnAt h.2.2.2.2.2.2.1 (i - 1)).1 from g) (by omega))
     exact ⟨fun _=>rfl,fun h=>absurd ⟨rfl,fun _=>hlt⟩ h⟩
    ·rw [br_true]
     rotate_left
     ·exact decide_eq_true (show (lnAt h.2.2.2.2.2.2.1 i).1≤(lnAt h.2.2.2.2.2.2.1 (i - 1)).1 by omega)
     exact ⟨fun h=>absurd (h.2 (by omega)) hlt,fun _=>rfl⟩
 ·intro k
  show Says (Z25 K (k + 1) (h.2.2.2.2.2.2.1.length:Int) h) _
  rw [Z25.step,br_false (decide_eq_false (by omega))]
  exact Says.t trivial
end F5
/- The house: the askers' list. -/
namespace F5
set_option linter.unusedSimpArgs false
open Go Go.Fil Go.Proofs Go.Fil.Cf
set_option maxRecDepth 100000
set_option linter.unusedVariables false
theorem AkP_next {K:Nat} {h:Z3} {i:Nat} (hi:i < h.2.2.2.2.2.1.length):(∀ j,i≤j→j < h.2.2.2.2.2.1.length→AkP K h j)↔AkP K h i∧∀ j,i + 1≤j→j < h.2.2.2.2.2.1.length→AkP K h j:=by
 constructor
 ·intro g
  exact ⟨g i (Nat.le_refl _) hi,fun j hj hl=>g j (by omega) hl⟩
 ·rintro ⟨g1,g2⟩ j hj hl
  by_cases e:j = i
  ·subst e; exact g1
  ·exact g2 j (by omega) hl
theorem found_neg {m:Nat} {id:Nat→Int} {n r:Int} (h:Found m id n r):r < 0↔∀ j,j < m→id j≠n:=by
 constructor
 ·intro hr
  rcases h with h | ⟨i,h1,h2,h3⟩
  ·exact h.2
  ·omega
 ·intro g
  rcases h with h | ⟨i,h1,h2,h3⟩
  ·exact h.1
  ·exact absurd h3 (g i h1)
def A1 (K:Nat) (h:Z3) (i:Nat):Prop:=0 < i→(akAt h.2.2.2.2.2.1 (i - 1)).1 < (akAt h.2.2.2.2.2.1 i).1
def A2 (K:Nat) (h:Z3) (i:Nat):Prop:=∀ m,m < h.2.2.2.2.2.2.1.length→(lnAt h.2.2.2.2.2.2.1 m).1≠(akAt h.2.2.2.2.2.1 i).1
def A3 (K:Nat) (h:Z3) (i:Nat):Prop:=(akAt h.2.2.2.2.2.1 i).2.2.1 = 2→(akAt h.2.2.2.2.2.1 i).2.2.2.1 < h.2.2.2.2.2.2.2.1∧∀ j',j' < i→(akAt h.2.2.2.2.2.1 j').2.2.1 = 2→(akAt h.2.2.2.2.2.1 j').2.2.2.1≠(akAt h.2.2.2.2.2.1 i).2.2.2.1
theorem asks_s {K:Nat} (hK:maxLen + 2≤K) (h:Z3) (hs:HS h) {R:Prop} (tail:Says (Z1z K K 0 h) R):∀ (q i k:Nat),i + q = h.2.2.2.2.2.1.length→q < k →
  Says (Z2f K k (i:Int) h) ((∀ j,i≤j→j < h.2.2.2.2.2.1.length→AkP K h j)∧R)
 | 0,i,k + 1,hi,hk=>by
  rw [Z2f.step,br_false (decide_eq_false (by omega))]
  exact tail.imp ⟨fun g=>⟨fun j h1 h2=>absurd h2 (by omega),g⟩,fun g=>g.2⟩
 | q + 1,i,k + 1,hi,hk=>by
  have hm:maxLen = 2 ^ 63 - 1:=rfl
  have hla:=hs.la
  have hlt:i < h.2.2.2.2.2.1.length:=by omega
  have hin:(decide (0≤(i:Int)) && decide ((i:Int) < ((h.2.2.2.2.2.1.length:Nat):Int))) = true:=by simp; omega
  have hA:=askOk_s hK (akAt h.2.2.2.2.2.1 i) (hs.a1 _ (akAt_mem hlt)) (hs.a2 _ (akAt_mem hlt))
  have ih:=asks_s hK h hs tail q (i + 1) k (by omega) (by omega)
  rw [Int.natCast_add] at ih
  obtain ⟨r,r1,_,r2⟩:=lineAt hK h.2.2.2.2.2.2.1 hs.ll (akAt h.2.2.2.2.2.1 i).1
  have inner:∀ (p j k':Nat),j + p = i→p < k'→Says (Z27 K k' k (i:Int) (j:Int) h (akAt h.2.2.2.2.2.1 i)) ((∀ j',j≤j'→j' < i→(akAt h.2.2.2.2.2.1 j').2.2.1 = 2→(akAt h.2.2.2.2.2.1 j').2.2.2.1≠(akAt h.2.2.2.2.2.1 i).2.2.2.1)∧(∀ j,i + 1≤j→j < h.2.2.2.2.2.1.length→AkP K h j)∧R):=by
   intro p
   induction p with
   | zero =>
    intro j k' hj hk'
    obtain ⟨k',rfl⟩:∃ m,k' = m + 1:=⟨k' - 1,by omega⟩
    rw [Z27.step,br_false (decide_eq_false (by omega)),wrap_id (by omega) (by omega)]
    exact ih.imp ⟨fun g=>⟨fun j' h1 h2=>absurd h2 (by omega),g⟩,fun g=>g.2⟩
   | succ p ihp =>
    intro j k' hj hk'
    obtain ⟨k',rfl⟩:∃ m,k' = m + 1:=⟨k' - 1,by omega⟩
    have hin2:(decide (0≤(j:Int)) && decide ((j:Int) < ((h.2.2.2.2.2.1.length:Nat):Int))) = true:=by simp; omega
    rw [Z27.step,br_true (decide_eq_true (by omega)),hin2,br_t,br_t,show (j:Int).toNat = j by omega,wrap_id (k:=(j:Int) + 1) (by omega) (by omega)]
    have nxt:=ihp (j + 1) k' (by omega) (by omega)
    rw [Int.natCast_add] at nxt
    have step:((akAt h.2.2.2.2.2.1 j).2.2.1 = 2→(akAt h.2.2.2.2.2.1 j).2.2.2.1≠(akAt h.2.2.2.2.2.1 i).2.2.2.1)→(((∀ j',j + 1≤j'→j' < i→(akAt h.2.2.2.2.2.1 j').2.2.1 = 2→(akAt h.2.2.2.2.2.1 j').2.2.2.1≠(akAt h.2.2.2.2.2.1 i).2.2.2.1)∧(∀ j,i + 1≤j→j < h.2.2.2.2.2.1.length→AkP K h j)∧R)↔((∀ j',j≤j'→j' < i→(akAt h.2.2.2.2.2.1 j').2.2.1 = 2→(akAt h.2.2.2.2.2.1 j').2.2.2.1≠(akAt h.2.2.2.2.2.1 i).2.2.2.1)∧(∀ j,i + 1≤j→j < h.2.2.2.2.2.1.length→AkP K h j)∧R)):=by
     intro hj0
     constructor
     ·rintro ⟨g1,g2⟩
      refine ⟨fun j' h1 h2=>?_,g2⟩
      by_cases e:j' = j
      ·subst e; exact hj0
      ·exact g1 j' (by omega) h2
     ·rintro ⟨g1,g2⟩
      exact ⟨fun j' h1 h2=>g1 j' (by omega) h2,g2⟩
    by_cases s2:(akAt h.2.2.2.2.2.1 j).2.2.1 = 2
    ·rw [br_true (beq_true s2)]
     by_cases n2:(akAt h.2.2.2.2.2.1 j).2.2.2.1 = (akAt h.2.2.2.2.2.1 i).2.2.2.1
     ·rw [br_true (beq_true n2)]
      exact Says.f (fun g=>g.1 j (Nat.le_refl _) (by omega) s2 n2)
     ·rw [br_false (beq_false n2)]
      exact nxt.imp (step (fun _=>n2))
    ·rw [br_false (beq_false s2)]
     exact nxt.imp (step (fun e=>absurd e s2))
  have rest:Says ((some r).bind fun y=>br (decide ((y:Int) ≥ 0)) (some false) (br (((akAt h.2.2.2.2.2.1 i).2.2.1:Int) == 2) (br (decide ((akAt h.2.2.2.2.2.1 i).2.2.2.1 ≥ h.2.2.2.2.2.2.2.1)) (some false) (Z27 K K k (i:Int) 0 h (akAt h.2.2.2.2.2.1 i))) (Z2f K k ((i:Int) + 1) h))) ((A2 K h i∧A3 K h i)∧(∀ j,i + 1≤j→j < h.2.2.2.2.2.1.length→AkP K h j)∧R):=by
   rw [Option.bind_some]
   refine Says.br (fun c=>Says.f (fun g=>?_)) (fun c=>?_)
   ·have:=(found_neg r2).2 g.1.1
    have c:=of_decide_eq_true c
    omega
   ·have c:=of_decide_eq_false c
    have a2:A2 K h i:=(found_neg r2).1 (by omega)
    refine Says.br (fun c2=>?_) (fun c2=>?_)
    ·have s2:(akAt h.2.2.2.2.2.1 i).2.2.1 = 2:=by simpa using c2
     refine Says.br (fun c3=>Says.f (fun g=>?_)) (fun c3=>?_)
     ·have c3:=of_decide_eq_true c3
      have:=(g.1.2 s2).1
      omega
     ·have c3:=of_decide_eq_false c3
      have:=inner i 0 K (by omega) (by omega)
      refine this.imp ⟨fun g=>⟨⟨a2,fun _=>⟨by omega,fun j' hj'=>g.1 j' (by omega) hj'⟩⟩,g.2⟩,fun g=>⟨fun j' _ hj'=>(g.1.2 s2).2 j' hj',g.2⟩⟩
    ·have s2:(akAt h.2.2.2.2.2.1 i).2.2.1≠2:=by simpa using c2
     exact ih.imp ⟨fun g=>⟨⟨a2,fun e=>absurd e s2⟩,g⟩,fun g=>g.2⟩
  rw [Z2f.step,br_true (decide_eq_true (by omega)),hin,br_t,show (i:Int).toNat = i by omega,wrap_id (k:=(i:Int) + 1) (by omega) (by omega),wrap_id (k:=(i:Int) - 1) (by omega) (by omega),r1,AkP_next hlt]
  have fin:Says (br (decide ((i:Int) > 0)) (br (decide (0≤(i:Int) - 1) && decide ((i:Int) - 1 < ((h.2.2.2.2.2.1.length:Nat):Int))) (br (decide ((akAt h.2.2.2.2.2.1 ((i:Int) - 1).toNat).1 ≥ (akAt h.2.2.2.2.2.1 i).1)) (some false) ((some r).bind fun y=>br (decide ((y:Int) ≥ 0)) (some false) (br (((akAt h.2.2.2.2.2.1 i).2.2.1:Int) == 2) (br (decide ((akAt h.2.2.2.2.2.1 i).2.2.2.1 ≥ h.2.2.2.2.2.2.2.1)) (some false) (Z27 K K k (i:Int) 0 h (akAt h.2.2.2.2.2.1 i))) (Z2f K k ((i:Int) + 1) h)))) none) ((some r).bind fun y=>br (decide ((y:Int) ≥ 0)) (some false) (br (((akAt h.2.2.2.2.2.1 i).2.2.1:Int) == 2) (br (decide ((akAt h.2.2.2.2.2.1 i).2.2.2.1 ≥ h.2.2.2.2.2.2.2.1)) (some false) (Z27 K K k (i:Int) 0 h (akAt h.2.2.2.2.2.1 i))) (Z2f K k ((i:Int) + 1) h)))) (A1 K h i∧(A2 K h i∧A3 K h i)∧(∀ j,i + 1≤j→j < h.2.2.2.2.2.1.length→AkP K h j)∧R):=by
   refine Says.br (fun c=>?_) (fun c=>?_)
   ·have c:=of_decide_eq_true c
    rw [br_true (by simp; omega),show ((i:Int) - 1).toNat = i - 1 by omega]
    refine Says.br (fun c2=>Says.f (fun g=>?_)) (fun c2=>?_)
    ·have c2:=of_decide_eq_true c2
     have:=g.1 (by omega)
     omega
    ·have c2:=of_decide_eq_false c2
     exact rest.imp ⟨fun g=>⟨fun _=>by omega,g⟩,fun g=>g.2⟩
   ·have c:=of_decide_eq_false c
    exact rest.imp ⟨fun g=>⟨fun e=>absurd e (by omega),g⟩,fun g=>g.2⟩
  refine (Says.gate hA (fun _=>fin)).imp ?_
  constructor
  ·rintro ⟨g0,g1,⟨g2,g3⟩,g4,g5⟩
   exact ⟨⟨⟨g0,g1,g2,g3⟩,g4⟩,g5⟩
  ·rintro ⟨⟨⟨g0,g1,g2,g3⟩,g4⟩,g5⟩
   exact ⟨g0,g1,⟨g2,g3⟩,g4,g5⟩
 | _,_,0,_,h=>absurd h (Nat.not_lt_zero _)
end F5
/- The house: the lists are alike in both; the pairs. -/
namespace F5
set_option linter.unusedSimpArgs false
open Go Go.Fil Go.Proofs Go.Fil.Cf
set_option maxRecDepth 100000
set_option linter.unusedVariables false
theorem index_run {K:Nat} (l:List Int) (hl:l.length≤2000000) (n:Int):∀ (q i k:Nat),i + q = l.length→q < k→(∀ j,j < i→l[j]?≠some n)→∃ r:Int,Z46 K k l n (i:Int) = some r∧(0≤r↔n∈l)
 | 0,i,k + 1,hi,hk,hb=>by
  rw [Z46.step,br_false (decide_eq_false (by omega))]
  refine ⟨-1,rfl,⟨fun h=>absurd h (by omega),fun h=>?_⟩⟩
  obtain ⟨j,hj,e⟩:=List.getElem_of_mem h
  exact absurd (by rw [List.getElem?_eq_getElem hj,e]) (hb j (by omega))
 | q + 1,i,k + 1,hi,hk,hb=>by
  have hlt:i < l.length:=by omega
  have hat:List.getD l i 0 = l[i]:=by rw [List.getD_eq_getElem?_getD,List.getElem?_eq_getElem hlt]; rfl
  rw [Z46.step,br_true (decide_eq_true (by omega)),br_true (by simp; omega),show (i:Int).toNat = i by omega,wrap_id (k:=(i:Int) + 1) (by omega) (by omega),hat]
  by_cases e:n = l[i]
  ·rw [br_true (beq_true e)]
   exact ⟨_,rfl,⟨fun _=>e ▸ List.getElem_mem hlt,fun _=>by omega⟩⟩
  ·rw [br_false (beq_false e)]
   have:=index_run (K:=K) l hl n q (i + 1) k (by omega) (by omega) (fun j hj=>by
    by_cases ej:j = i
    ·subst ej
     rw [List.getElem?_eq_getElem hlt]
     exact fun h=>e (Option.some.inj h).symm
    ·exact hb j (by omega))
   rwa [Int.natCast_add] at this
 | _,_,0,_,h,_=>absurd h (Nat.not_lt_zero _)
theorem contains {K:Nat} (hK:maxLen + 2≤K) (l:List Int) (hl:l.length≤2000000) (n:Int):Says (Z3l K l n) (n∈l):=by
 have hm:maxLen = 2 ^ 63 - 1:=rfl
 obtain ⟨r,r1,r2⟩:=index_run (K:=K) l hl n l.length 0 K (by omega) (by omega) (fun j hj=>absurd hj (by omega))
 have e:Z75 K l n = some r:=by rw [Z75.eq]; exact r1
 rw [Z3l.eq,e,Option.bind_some]
 exact Says.d.imp r2
def Seen (h:Z3) (i:Nat) (o:List Int):Prop:=o.length≤i∧∀ x,x∈o↔∃ j',j' < i∧(akAt h.2.2.2.2.2.1 j').2.2.1 = 2∧(akAt h.2.2.2.2.2.1 j').2.2.2.1 = x
theorem Seen.skip {h:Z3} {i:Nat} {o:List Int} (hs:Seen h i o) (s:(akAt h.2.2.2.2.2.1 i).2.2.1≠2):Seen h (i + 1) o:=by
 refine ⟨by have:=hs.1; omega,fun x=>(hs.2 x).trans ⟨?_,?_⟩⟩
 ·rintro ⟨j',h1,h2,h3⟩
  exact ⟨j',by omega,h2,h3⟩
 ·rintro ⟨j',h1,h2,h3⟩
  by_cases e:j' = i
  ·subst e; exact absurd h2 s
  ·exact ⟨j',by omega,h2,h3⟩
theorem Seen.put {h:Z3} {i:Nat} {o:List Int} (hs:Seen h i o) (s:(akAt h.2.2.2.2.2.1 i).2.2.1 = 2):Seen h (i + 1) (o ++ [(akAt h.2.2.2.2.2.1 i).2.2.2.1]):=by
 refine ⟨by have:=hs.1; simp; omega,fun x=>?_⟩
 rw [List.mem_append,List.mem_singleton,hs.2 x]
 constructor
 ·rintro (⟨j',h1,h2,h3⟩ | h)
  ·exact ⟨j',by omega,h2,h3⟩
  ·exact ⟨i,by omega,s,h.symm⟩
 ·rintro ⟨j',h1,h2,h3⟩
  by_cases e:j' = i
  ·subst e; exact .inr h3.symm
  ·exact .inl ⟨j',by omega,h2,h3⟩
theorem asks_i {K:Nat} (hK:maxLen + 2≤K) (h:Z3) (hs:HS h) {R:Prop} (tail:Says (Z25 K K 0 h) R):∀ (q i k:Nat) (o:List Int),i + q = h.2.2.2.2.2.1.length→q < k→Seen h i o →
  Says (Z2u K k h (i:Int) h o) ((∀ j,i≤j→j < h.2.2.2.2.2.1.length→AkP K h j)∧R)
 | 0,i,k + 1,o,hi,hk,ho=>by
  rw [Z2u.step,br_false (decide_eq_false (by omega))]
  exact tail.imp ⟨fun g=>⟨fun j h1 h2=>absurd h2 (by omega),g⟩,fun g=>g.2⟩
 | q + 1,i,k + 1,o,hi,hk,ho=>by
  have hla:=hs.la
  have hol:=ho.1
  have hlt:i < h.2.2.2.2.2.1.length:=by omega
  have hin:(decide (0≤(i:Int)) && decide ((i:Int) < ((h.2.2.2.2.2.1.length:Nat):Int))) = true:=by simp; omega
  have hA:=askOk_i hK (akAt h.2.2.2.2.2.1 i) (hs.a1 _ (akAt_mem hlt)) (hs.a2 _ (akAt_mem hlt))
  have ih:=fun o' ho'=>asks_i hK h hs tail q (i + 1) k o' (by omega) (by omega) ho'
  rw [Int.natCast_add] at ih
  obtain ⟨r,_,r1,r2⟩:=lineAt hK h.2.2.2.2.2.2.1 hs.ll (akAt h.2.2.2.2.2.1 i).1
  have hc:=contains hK o (by omega) (akAt h.2.2.2.2.2.1 i).2.2.2.1
  have rest:Says ((some r).bind fun y=>br (decide ((y:Int) ≥ 0)) (some false) (br (((akAt h.2.2.2.2.2.1 i).2.2.1:Int) == 2) (br (decide ((akAt h.2.2.2.2.2.1 i).2.2.2.1 ≥ h.2.2.2.2.2.2.2.1)) (some false) ((Z3l K o (akAt h.2.2.2.2.2.1 i).2.2.2.1).bind fun y4=>br y4 (some false) (br (decide ((o.length + [(akAt h.2.2.2.2.2.1 i).2.2.2.1].length) * 8≤140737488355328)) (Z2u K k h ((i:Int) + 1) h (o ++ [(akAt h.2.2.2.2.2.1 i).2.2.2.1])) none))) (Z2u K k h ((i:Int) + 1) h o))) ((A2 K h i∧A3 K h i)∧(∀ j,i + 1≤j→j < h.2.2.2.2.2.1.length→AkP K h j)∧R):=by
   rw [Option.bind_some]
   refine Says.br (fun c=>Says.f (fun g=>?_)) (fun c=>?_)
   ·have:=(found_neg r2).2 g.1.1
    have c:=of_decide_eq_true c
    omega
   ·have c:=of_decide_eq_false c
    have a2:A2 K h i:=(found_neg r2).1 (by omega)
    refine Says.br (fun c2=>?_) (fun c2=>?_)
    ·have s2:(akAt h.2.2.2.2.2.1 i).2.2.1 = 2:=by simpa using c2
     refine Says.br (fun c3=>Says.f (fun g=>?_)) (fun c3=>?_)
     ·have c3:=of_decide_eq_true c3
      have:=(g.1.2 s2).1
      omega
     ·have c3:=of_decide_eq_false c3
      refine hc.bind (fun hmem=>?_) (fun hmem=>?_)
      ·refine Says.f (fun g=>?_)
       obtain ⟨j',h1,h2,h3⟩:=(ho.2 _).1 hmem
       exact (g.1.2 s2).2 j' h1 h2 h3
      ·show Says (br false _ _) _
       rw [br_f,br_true (decide_eq_true (by simp; omega))]
       refine (ih _ (ho.put s2)).imp ⟨fun g=>⟨⟨a2,fun _=>⟨by omega,fun j' hj' hs' he=>hmem ((ho.2 _).2 ⟨j',hj',hs',he⟩)⟩⟩,g⟩,fun g=>g.2⟩
    ·have s2:(akAt h.2.2.2.2.2.1 i).2.2.1≠2:=by simpa using c2
     exact (ih _ (ho.skip s2)).imp ⟨fun g=>⟨⟨a2,fun e=>absurd e s2⟩,g⟩,fun g=>g.2⟩
  rw [Z2u.step,br_true (decide_eq_true (by omega)),hin,br_t,show (i:Int).toNat = i by omega,wrap_id (k:=(i:Int) + 1) (by omega) (by omega),wrap_id (k:=(i:Int) - 1) (by omega) (by omega),r1,AkP_next hlt]
  have fin:∀ X:Option Bool,Says X ((A2 K h i∧A3 K h i)∧(∀ j,i + 1≤j→j < h.2.2.2.2.2.1.length→AkP K h j)∧R)→Says (br (decide ((i:Int) > 0)) (br (decide (0≤(i:Int) - 1) && decide ((i:Int) - 1 < ((h.2.2.2.2.2.1.length:Nat):Int))) (br (decide ((akAt h.2.2.2.2.2.1 i).1≤(akAt h.2.2.2.2.2.1 ((i:Int) - 1).toNat).1)) (some false) X) none) X) (A1 K h i∧(A2 K h i∧A3 K h i)∧(∀ j,i + 1≤j→j < h.2.2.2.2.2.1.length→AkP K h j)∧R):=by
   intro X rest
   refine Says.br (fun c=>?_) (fun c=>?_)
   ·have c:=of_decide_eq_true c
    rw [br_true (by simp; omega),show ((i:Int) - 1).toNat = i - 1 by omega]
    refine Says.br (fun c2=>Says.f (fun g=>?_)) (fun c2=>?_)
    ·have c2:=of_decide_eq_true c2
     have:=g.1 (by omega)
     omega
    ·have c2:=of_decide_eq_false c2
     exact rest.imp ⟨fun g=>⟨fun _=>by omega,g⟩,fun g=>g.2⟩
   ·have c:=of_decide_eq_false c
    exact rest.imp ⟨fun g=>⟨fun e=>absurd e (by omega),g⟩,fun g=>g.2⟩
  refine (Says.gate hA (fun _=>fin _ rest)).imp ?_
  constructor
  ·rintro ⟨g0,g1,⟨g2,g3⟩,g4,g5⟩
   exact ⟨⟨⟨g0,g1,g2,g3⟩,g4⟩,g5⟩
  ·rintro ⟨⟨⟨g0,g1,g2,g3⟩,g4⟩,g5⟩
   exact ⟨g0,g1,⟨g2,g3⟩,g4,g5⟩
 | _,_,0,_,_,h,_=>absurd h (Nat.not_lt_zero _)
def ListsP (K:Nat) (h:Z3):Prop:=(∀ j,j < h.2.2.2.2.2.1.length→AkP K h j)∧(∀ j,j < h.2.2.2.2.2.2.1.length→LnP K h j)∧HTail h
theorem lists_s {K:Nat} (hK:maxLen + 2≤K) (h:Z3) (hs:HS h):Says (Z1x K h) (ListsP K h):=by
 have hm:maxLen = 2 ^ 63 - 1:=rfl
 have hla:=hs.la
 rw [Z1x.eq]
 have:=asks_s hK h hs (lines_s hK h hs) h.2.2.2.2.2.1.length 0 K (by omega) (by omega)
 exact this.imp ⟨fun g=>⟨fun j hj=>g.1 j (by omega) hj,g.2⟩,fun g=>⟨fun j _ hj=>g.1 j hj,g.2⟩⟩
theorem lists_i {K:Nat} (hK:maxLen + 2≤K) (h:Z3) (hs:HS h):Says (Z53 K h) (ListsP K h):=by
 have hm:maxLen = 2 ^ 63 - 1:=rfl
 have hla:=hs.la
 rw [Z53.eq]
 refine Says.br (fun c=>Says.f (fun g=>?_)) (fun c=>Says.br (fun c2=>Says.f (fun g=>?_)) (fun c2=>?_))
 ·have c:=of_decide_eq_true c
  have:=g.2.2.1
  omega
 ·have c2:=of_decide_eq_true c2
  have:=g.2.2.2.1
  omega
 ·have c:=of_decide_eq_false c
  have c2:=of_decide_eq_false c2
  have hw:Says (Z66 K h.2.2.2.2.2.2.2.1) (0≤h.2.2.2.2.2.2.2.1∧h.2.2.2.2.2.2.2.1≤65535):=by
   rw [wordI]
   exact ⟨_,rfl,by simp⟩
  have:=asks_i hK h hs (lines_i hK h hs) h.2.2.2.2.2.1.length 0 K [] (by omega) (by omega) ⟨by simp,fun x=>⟨fun h=>absurd h (by simp),fun ⟨j',h1,_⟩=>absurd h1 (by omega)⟩⟩
  refine (Says.gate hw (fun _=>this)).imp ?_
  constructor
  ·rintro ⟨g0,g1,g2,_⟩
   exact ⟨fun j hj=>g1 j (by omega) hj,g2,by omega,by omega,g0⟩
  ·rintro ⟨g1,g2,_,_,g0⟩
   exact ⟨g0,fun j _ hj=>g1 j hj,g2,trivial⟩
end F5
/- The house: pairs, and the whole. -/
namespace F5
set_option linter.unusedSimpArgs false
open Go Go.Fil Go.Proofs Go.Fil.Cf
set_option maxRecDepth 100000
set_option linter.unusedVariables false
theorem pairs2 {K:Nat} (hK:maxLen + 2≤K) (h:Z3) (hs:HS h):∀ (q i k:Nat),i + q = h.2.2.2.2.2.2.1.length→q < k→∃ b,Z58 K k (i:Int) h = some b∧Z5a K k (i:Int) h = some b
 | 0,i,k + 1,hi,hk=>by
  rw [Z58.step,Z5a.step,br_false (decide_eq_false (by omega)),br_false (decide_eq_false (by omega))]
  exact ⟨true,rfl,rfl⟩
 | q + 1,i,k + 1,hi,hk=>by
  have hll:=hs.ll
  have hin:(decide (0≤(i:Int)) && decide ((i:Int) < ((h.2.2.2.2.2.2.1.length:Nat):Int))) = true:=by simp; omega
  obtain ⟨b,b1,b2⟩:=pairs2 hK h hs q (i + 1) k (by omega) (by omega)
  rw [Int.natCast_add] at b1 b2
  obtain ⟨r,r1,r2,r3⟩:=askAt hK h.2.2.2.2.2.1 hs.la (lnAt h.2.2.2.2.2.2.1 i).2.2.2.2.2.1
  rw [Z58.step,Z5a.step,br_true (c:=decide ((i:Int) < ((h.2.2.2.2.2.2.1.length:Nat):Int))) (decide_eq_true (by omega)),br_true (c:=decide ((i:Int) < ((h.2.2.2.2.2.2.1.length:Nat):Int))) (decide_eq_true (by omega)),hin]
  simp only [br_t]
  rw [show (i:Int).toNat = i by omega,wrap_id (k:=(i:Int) + 1) (by omega) (by omega),r1,r2]
  simp only [Option.bind_some]
  by_cases s0:(lnAt h.2.2.2.2.2.2.1 i).2.2.2.1 = 0
  ·rw [br_false (c:=((lnAt h.2.2.2.2.2.2.1 i).2.2.2.1:Int) != 0) (bne_false s0),br_false (c:=((lnAt h.2.2.2.2.2.2.1 i).2.2.2.1:Int) != 0) (bne_false s0)]
   exact ⟨b,b1,b2⟩
  ·rw [br_true (c:=((lnAt h.2.2.2.2.2.2.1 i).2.2.2.1:Int) != 0) (bne_true s0),br_true (c:=((lnAt h.2.2.2.2.2.2.1 i).2.2.2.1:Int) != 0) (bne_true s0)]
   by_cases hr:r < 0
   ·rw [br_true (decide_eq_true hr),br_true (decide_eq_true hr)]
    exact ⟨false,rfl,rfl⟩
   ·rw [br_false (decide_eq_false hr),br_false (decide_eq_false hr)]
    rcases r3 with ⟨g,_⟩ | ⟨j,j1,rfl,j3⟩
    ·exact absurd g hr
    ·have hin2:(decide (0≤(j:Int)) && decide ((j:Int) < ((h.2.2.2.2.2.1.length:Nat):Int))) = true:=by simp; omega
     rw [hin2,br_t,br_t,show (j:Int).toNat = j by omega]
     obtain ⟨e,c,c1⟩:=lent_eq K (akAt h.2.2.2.2.2.1 j) (lnAt h.2.2.2.2.2.2.1 i)
     rw [e,c1,Option.bind_some,Option.bind_some]
     cases c
     ·exact ⟨false,rfl,rfl⟩
     ·exact ⟨b,b1,b2⟩
 | _,_,0,_,h=>absurd h (Nat.not_lt_zero _)
theorem pairs1 {K:Nat} (hK:maxLen + 2≤K) (h:Z3) (hs:HS h) (hst:∀ j,j < h.2.2.2.2.2.1.length→0≤(akAt h.2.2.2.2.2.1 j).2.2.1∧(akAt h.2.2.2.2.2.1 j).2.2.1≤4):∀ (q i k:Nat),i + q = h.2.2.2.2.2.1.length→q < k→∃ b,Z4a K k (i:Int) h = some b∧Z47 K k h (i:Int) h = some b
 | 0,i,k + 1,hi,hk=>by
  have hm:maxLen = 2 ^ 63 - 1:=rfl
  have hll:=hs.ll
  rw [Z4a.step,Z47.step,br_false (decide_eq_false (by omega)),br_false (decide_eq_false (by omega))]
  exact pairs2 hK h hs h.2.2.2.2.2.2.1.length 0 K (by omega) (by omega)
 | q + 1,i,k + 1,hi,hk=>by
  have hla:=hs.la
  have hin:(decide (0≤(i:Int)) && decide ((i:Int) < ((h.2.2.2.2.2.1.length:Nat):Int))) = true:=by simp; omega
  obtain ⟨b,b1,b2⟩:=pairs1 hK h hs hst q (i + 1) k (by omega) (by omega)
  rw [Int.natCast_add] at b1 b2
  obtain ⟨r,r1,r2,r3⟩:=lineAt hK h.2.2.2.2.2.2.1 hs.ll (akAt h.2.2.2.2.2.1 i).2.2.2.2.2.2.1
  obtain ⟨t1,t2⟩:=hst i (by omega)
  rw [Z4a.step,Z47.step,br_true (c:=decide ((i:Int) < ((h.2.2.2.2.2.1.length:Nat):Int))) (decide_eq_true (by omega)),br_true (c:=decide ((i:Int) < ((h.2.2.2.2.2.1.length:Nat):Int))) (decide_eq_true (by omega)),hin]
  simp only [br_t]
  rw [show (i:Int).toNat = i by omega,wrap_id (k:=(i:Int) + 1) (by omega) (by omega),r1,r2]
  simp only [Option.bind_some]
  have both:∃ b',br (decide (r < 0)) (some false) (br (decide (0≤r) && decide (r < ((h.2.2.2.2.2.2.1.length:Nat):Int))) ((Z82 K (akAt h.2.2.2.2.2.1 i) (lnAt h.2.2.2.2.2.2.1 r.toNat)).bind fun y_2=>br (!y_2) (some false) (Z4a K k ((i:Int) + 1) h)) none) = some b'∧br (decide (r < 0)) (some false) (br (decide (0≤r) && decide (r < ((h.2.2.2.2.2.2.1.length:Nat):Int))) ((Z67 K (akAt h.2.2.2.2.2.1 i) (lnAt h.2.2.2.2.2.2.1 r.toNat)).bind fun y_2=>br (!y_2) (some false) (Z47 K k h ((i:Int) + 1) h)) none) = some b':=by
   by_cases hr:r < 0
   ·rw [br_true (decide_eq_true hr),br_true (decide_eq_true hr)]
    exact ⟨false,rfl,rfl⟩
   ·rw [br_false (decide_eq_false hr),br_false (decide_eq_false hr)]
    rcases r3 with ⟨g,_⟩ | ⟨j,j1,rfl,j3⟩
    ·exact absurd g hr
    ·have hin2:(decide (0≤(j:Int)) && decide ((j:Int) < ((h.2.2.2.2.2.2.1.length:Nat):Int))) = true:=by simp; omega
     rw [hin2,br_t,br_t,show (j:Int).toNat = j by omega]
     obtain ⟨e,c,c1⟩:=lent_eq K (akAt h.2.2.2.2.2.1 i) (lnAt h.2.2.2.2.2.2.1 j)
     rw [e,c1,Option.bind_some,Option.bind_some]
     cases c
     ·exact ⟨false,rfl,rfl⟩
     ·exact ⟨b,b1,b2⟩
  by_cases s3:(akAt h.2.2.2.2.2.1 i).2.2.1 = 3
  ·rw [br_true (c:=decide (((akAt h.2.2.2.2.2.1 i).2.2.1:Int) ≥ 3)) (decide_eq_true (by omega)),br_true (c:=((akAt h.2.2.2.2.2.1 i).2.2.1:Int) == 3) (beq_true s3)]
   exact both
  ·rw [br_false (c:=((akAt h.2.2.2.2.2.1 i).2.2.1:Int) == 3) (beq_false s3)]
   by_cases s4:(akAt h.2.2.2.2.2.1 i).2.2.1 = 4
   ·rw [br_true (c:=decide (((akAt h.2.2.2.2.2.1 i).2.2.1:Int) ≥ 3)) (decide_eq_true (by omega)),br_true (c:=((akAt h.2.2.2.2.2.1 i).2.2.1:Int) == 4) (beq_true s4)]
    exact both
   ·rw [br_false (c:=decide (((akAt h.2.2.2.2.2.1 i).2.2.1:Int) ≥ 3)) (decide_eq_false (by omega)),br_false (c:=((akAt h.2.2.2.2.2.1 i).2.2.1:Int) == 4) (beq_false s4)]
    exact ⟨b,b1,b2⟩
 | _,_,0,_,h=>absurd h (Nat.not_lt_zero _)
theorem pairs {K:Nat} (hK:maxLen + 2≤K) (h:Z3) (hs:HS h) (hl:ListsP K h):∃ b,Z1s K h = some b∧Z2n K h = some b:=by
 have hm:maxLen = 2 ^ 63 - 1:=rfl
 have hla:=hs.la
 obtain ⟨b,b1,b2⟩:=pairs1 hK h hs (fun j hj=>(hl.1 j hj).1.2.1) h.2.2.2.2.2.1.length 0 K (by omega) (by omega)
 exact ⟨b,by rw [Z1s.eq]; exact b1,by rw [Z2n.eq]; exact b2⟩
theorem conf_same (K:Nat) (x y:List Zc):∀ (k:Nat) (v:Int),Z1o K k x y v = Z24 K k x y v
 | 0,v=>by rw [Z1o.zero,Z24.zero]
 | k + 1,v=>by rw [Z1o.step,Z24.step,conf_same K x y k]
theorem conf_run {K:Nat} (x y:List Zc) (hx:x.length≤1048576) (hxy:x.length = y.length):∀ (q i k:Nat),i + q = x.length→q < k→∃ b,Z24 K k x y (i:Int) = some b
 | 0,i,k + 1,hi,hk=>by
  rw [Z24.step,br_false (decide_eq_false (by omega))]
  exact ⟨_,rfl⟩
 | q + 1,i,k + 1,hi,hk=>by
  obtain ⟨b,b1⟩:=conf_run (K:=K) x y hx hxy q (i + 1) k (by omega) (by omega)
  rw [Int.natCast_add] at b1
  rw [Z24.step,br_true (decide_eq_true (by omega)),br_true (by simp; omega),br_true (by simp; omega),wrap_id (k:=(i:Int) + 1) (by omega) (by omega)]
  cases !(eqT Zl (List.getD x (i:Int).toNat Zl.zero) (List.getD y (i:Int).toNat Zl.zero) == true)
  ·exact ⟨b,b1⟩
  ·exact ⟨false,rfl⟩
 | _,_,0,_,h=>absurd h (Nat.not_lt_zero _)
theorem sameConf {K:Nat} (hK:maxLen + 2≤K) (x y:List Zc) (hx:x.length≤1048576):∃ b,Z60 K x y = some b∧Z2m K x y = some b:=by
 have hm:maxLen = 2 ^ 63 - 1:=rfl
 rw [Z60.eq,Z2m.eq,Z5i.eq,conf_same]
 by_cases h:x.length = y.length
 ·rw [br_false (bne_false (by omega))]
  obtain ⟨b,b1⟩:=conf_run (K:=K) x y hx h x.length 0 K (by omega) (by omega)
  have b1:Z24 K K x y 0 = some b:=b1
  exact ⟨b,b1,by rw [b1]; rfl⟩
 ·rw [br_true (bne_true (by omega))]
  exact ⟨false,rfl,rfl⟩
theorem conf_nil {K:Nat} (hK:maxLen + 2≤K) (x:List Zc):Z2m K x [] = some (decide (x.length = 0)):=by
 have hm:maxLen = 2 ^ 63 - 1:=rfl
 obtain ⟨k,rfl⟩:∃ m,K = m + 1:=⟨K - 1,by omega⟩
 rw [Z2m.eq,Z5i.eq]
 by_cases h:x.length = 0
 ·rw [br_false (bne_false (by simp; exact List.eq_nil_of_length_eq_zero h)),Z1o.step,br_false (decide_eq_false (by omega))]
  simp [h]
 ·rw [br_true (bne_true (by simp; exact fun e=>h (by simp [e])))]
  simp [h]
theorem asks_nil {K:Nat} (hK:maxLen + 2≤K) (x:List Ze):Z4k K x [] = some (decide (x.length = 0)):=by
 have hm:maxLen = 2 ^ 63 - 1:=rfl
 obtain ⟨k,rfl⟩:∃ m,K = m + 1:=⟨K - 1,by omega⟩
 rw [Z4k.eq]
 by_cases h:x.length = 0
 ·rw [br_false (bne_false (by simp; exact List.eq_nil_of_length_eq_zero h)),Z49.step,br_false (decide_eq_false (by omega))]
  simp [h]
 ·rw [br_true (bne_true (by simp; exact fun e=>h (by simp [e])))]
  simp [h]
theorem lines_nil {K:Nat} (hK:maxLen + 2≤K) (x:List Zn):Z4w K x [] = some (decide (x.length = 0)):=by
 have hm:maxLen = 2 ^ 63 - 1:=rfl
 obtain ⟨k,rfl⟩:∃ m,K = m + 1:=⟨K - 1,by omega⟩
 rw [Z4w.eq]
 by_cases h:x.length = 0
 ·rw [br_false (bne_false (by simp; exact List.eq_nil_of_length_eq_zero h)),Z4g.step,br_false (decide_eq_false (by omega))]
  simp [h]
 ·rw [br_true (bne_true (by simp; exact fun e=>h (by simp [e])))]
  simp [h]
end F5
/- The house: both say the same. -/
namespace F5
set_option linter.unusedSimpArgs false
open Go Go.Fil Go.Proofs Go.Fil.Cf
set_option maxRecDepth 100000
set_option linter.unusedVariables false
theorem eqHand (x y:Z3k):eqT Zp x y = (x.1 == y.1 && (x.2.1 == y.2.1 && (x.2.2.1 == y.2.2.1 && (x.2.2.2.1 == y.2.2.2.1 && true)))):=rfl
abbrev HT:Type:=Int × (Int × ((List Zc) × (Bool × ((List Ze) × ((List Zn) × (Int × (Z3k × Unit)))))))
def ownB (H G:Int) (n:Nat) (bc bp:Bool):Bool:=if (1≤H∧H≤60000)∧(0≤G∧G≤60000)∧(G = 0→n = 0) then (if G > 0 then bc && bp else bp) else false
theorem owning {K:Nat} (N:Int) (r:HT) (bc bp:Bool) (c2:Z33 K r.2.2.1 = some bc) (p2:Z2n K ((N,r):Z3) = some bp):Z61 K ((N,r):Z3) = some (ownB r.1 r.2.1 r.2.2.1.length bc bp):=by
 rw [Z61.eq]
 simp only [isIn_eq,c2,p2,Option.bind_some,br_some]
 congr 1
 unfold ownB
 rw [Bool.eq_iff_iff]
 simp only [ite_t,not_t,beq_iff_eq,Bool.and_eq_true,Bool.not_eq_true',decide_eq_true_eq,Bool.false_eq_true]
 cases bc <;> cases bp <;> simp <;> grind
/-- The chain that the reference asks, with an end X. -/
theorem chain_own (H G:Int) (n:Nat) (bc bp X:Bool):(if (!(decide (1≤H) && decide (H≤60000))) = true then false else if (!(decide (0≤G) && decide (G≤60000))) = true then false else if (G == 0) = true then (if decide ((n:Int) > 0) = true then false else if decide (G > 0) = true then (if (!bc) = true then false else if (!bp) = true then false else X) else (if (!bp) = true then false else X)) else (if decide (G > 0) = true then (if (!bc) = true then false else if (!bp) = true then false else X) else (if (!bp) = true then false else X))) = (if ownB H G n bc bp = true then X else false):=by
 unfold ownB
 rw [Bool.eq_iff_iff]
 simp only [ite_t,not_t,beq_iff_eq,Bool.and_eq_true,Bool.not_eq_true',decide_eq_true_eq,Bool.false_eq_true]
 cases bc <;> cases bp <;> cases X <;> simp <;> grind
theorem house0 {K:Nat} (hK:maxLen + 2≤K) (r:HT) (bc bp:Bool) (l1:Z1x K ((0,r):Z3) = some true) (c1:Z2e K r.2.2.1 = some bc) (c2:Z33 K r.2.2.1 = some bc) (p1:Z1s K ((0,r):Z3) = some bp) (p2:Z2n K ((0,r):Z3) = some bp) (l2:Z53 K ((0,r):Z3) = some true) :
  ∃ b,Zi K ((0,r):Z3) = some b∧Z21 K ((0,r):Z3) = some b:=by
 rw [Z21.eq,l2,Option.bind_some,br_false (c:=!true) rfl,owning 0 r bc bp c2 p2,Zi.eq0,l1]
 simp only [Z2a.eq,Z4m.eq,conf_nil hK,asks_nil hK,lines_nil hK,eqHand,Option.bind_some,br_some,isIn_eq,since_i,l1In_eq,since_s,c1,p1]
 refine ⟨_,rfl,?_⟩
 congr 1
 rw [Bool.eq_iff_iff]
 simp only [ite_t,not_t,beq_iff_eq,Bool.and_eq_true,Bool.not_eq_true',decide_eq_true_eq,Bool.false_eq_true]
 generalize ownB r.1 r.2.1 r.2.2.1.length bc bp = w
 cases r.2.2.2.1 <;> cases w <;> simp <;> grind (splits:=30)
theorem house1 {K:Nat} (hK:maxLen + 2≤K) (r:HT) (bc bp:Bool) (l1:Z1x K ((1,r):Z3) = some true) (c1:Z2e K r.2.2.1 = some bc) (c2:Z33 K r.2.2.1 = some bc) (p1:Z1s K ((1,r):Z3) = some bp) (p2:Z2n K ((1,r):Z3) = some bp) (l2:Z53 K ((1,r):Z3) = some true) :
  ∃ b,Zi K ((1,r):Z3) = some b∧Z21 K ((1,r):Z3) = some b:=by
 rw [Z21.eq,l2,Option.bind_some,br_false (c:=!true) rfl,owning 1 r bc bp c2 p2,Zi.eq1,l1]
 simp only [Z2a.eq,Z4m.eq,conf_nil hK,asks_nil hK,lines_nil hK,eqHand,Option.bind_some,br_some,isIn_eq,since_i,l1In_eq,since_s,c1,p1]
 refine ⟨_,rfl,?_⟩
 congr 1
 rw [Bool.eq_iff_iff]
 simp only [ite_t,not_t,beq_iff_eq,Bool.and_eq_true,Bool.not_eq_true',decide_eq_true_eq,Bool.false_eq_true]
 generalize ownB r.1 r.2.1 r.2.2.1.length bc bp = w
 cases r.2.2.2.1 <;> cases w <;> simp <;> grind (splits:=30)
theorem house2 {K:Nat} (hK:maxLen + 2≤K) (r:HT) (bc bp:Bool) (l1:Z1x K ((2,r):Z3) = some true) (c1:Z2e K r.2.2.1 = some bc) (c2:Z33 K r.2.2.1 = some bc) (p1:Z1s K ((2,r):Z3) = some bp) (p2:Z2n K ((2,r):Z3) = some bp) (l2:Z53 K ((2,r):Z3) = some true) :
  ∃ b,Zi K ((2,r):Z3) = some b∧Z21 K ((2,r):Z3) = some b:=by
 rw [Z21.eq,l2,Option.bind_some,br_false (c:=!true) rfl,owning 2 r bc bp c2 p2,Zi.eq2,l1]
 simp only [Z2a.eq,Z4m.eq,conf_nil hK,asks_nil hK,lines_nil hK,eqHand,Option.bind_some,br_some,isIn_eq,since_i,l1In_eq,since_s,c1,p1]
 refine ⟨_,rfl,?_⟩
 congr 1
 rw [chain_own]
 simp
theorem house3 {K:Nat} (hK:maxLen + 2≤K) (r:HT) (bc bp:Bool) (l1:Z1x K ((3,r):Z3) = some true) (c1:Z2e K r.2.2.1 = some bc) (c2:Z33 K r.2.2.1 = some bc) (p1:Z1s K ((3,r):Z3) = some bp) (p2:Z2n K ((3,r):Z3) = some bp) (l2:Z53 K ((3,r):Z3) = some true) :
  ∃ b,Zi K ((3,r):Z3) = some b∧Z21 K ((3,r):Z3) = some b:=by
 rw [Z21.eq,l2,Option.bind_some,br_false (c:=!true) rfl,owning 3 r bc bp c2 p2,Zi.eq3,l1]
 simp only [Z2a.eq,Z4m.eq,conf_nil hK,asks_nil hK,lines_nil hK,eqHand,Option.bind_some,br_some,isIn_eq,since_i,l1In_eq,since_s,c1,p1]
 refine ⟨_,rfl,?_⟩
 congr 1
 rw [chain_own]
 simp
theorem house4 {K:Nat} (hK:maxLen + 2≤K) (r:HT) (bc bp:Bool) (l1:Z1x K ((4,r):Z3) = some true) (c1:Z2e K r.2.2.1 = some bc) (c2:Z33 K r.2.2.1 = some bc) (p1:Z1s K ((4,r):Z3) = some bp) (p2:Z2n K ((4,r):Z3) = some bp) (l2:Z53 K ((4,r):Z3) = some true) :
  ∃ b,Zi K ((4,r):Z3) = some b∧Z21 K ((4,r):Z3) = some b:=by
 rw [Z21.eq,l2,Option.bind_some,br_false (c:=!true) rfl,owning 4 r bc bp c2 p2,Zi.eq4,l1]
 simp only [Z2a.eq,Z4m.eq,conf_nil hK,asks_nil hK,lines_nil hK,eqHand,Option.bind_some,br_some,isIn_eq,since_i,l1In_eq,since_s,c1,p1]
 refine ⟨_,rfl,?_⟩
 congr 1
theorem house {K:Nat} (hK:maxLen + 2≤K) (h:Z3) (hs:HS h):∃ b,Zi K h = some b∧Z21 K h = some b∧(b = true→ListsP K h):=by
 obtain ⟨bl,l1,e1⟩:=lists_s hK h hs
 obtain ⟨bl',l2,e2⟩:=lists_i hK h hs
 have e:bl = bl':=Bool.eq_iff_iff.2 (e1.trans e2.symm)
 subst e
 have hcl:=hs.lc
 obtain ⟨bc,c1,c2,_⟩:=confOk hK h.2.2.2.1 (by omega) hs.c1
 cases bl with
 | false =>
  refine ⟨false,?_,?_,fun h=>by cases h⟩
  ·obtain ⟨N,r⟩:=h
   by_cases h0:N = 0
   ·subst h0; rw [Zi.eq0,l1]; rfl
   by_cases h1:N = 1
   ·subst h1; rw [Zi.eq1,l1]; rfl
   by_cases h2:N = 2
   ·subst h2; rw [Zi.eq2,l1]; rfl
   by_cases h3:N = 3
   ·subst h3; rw [Zi.eq3,l1]; rfl
   by_cases h4:N = 4
   ·subst h4; rw [Zi.eq4,l1]; rfl
   cases N with
   | ofNat n =>
    obtain ⟨m,rfl⟩:∃ m,n = m + 5:=⟨n - 5,by
     have a0:n≠0:=fun e=>h0 (by rw [e]; rfl)
     have a1:n≠1:=fun e=>h1 (by rw [e]; rfl)
     have a2:n≠2:=fun e=>h2 (by rw [e]; rfl)
     have a3:n≠3:=fun e=>h3 (by rw [e]; rfl)
     have a4:n≠4:=fun e=>h4 (by rw [e]; rfl)
     omega⟩
    rw [Zi.eq5,l1]; rfl
   | negSucc n=>rw [Zi.eqn,l1]; rfl
  ·rw [Z21.eq,l2]; rfl
 | true =>
  have hl:=e1.1 rfl
  obtain ⟨bp,p1,p2⟩:=pairs hK h hs hl
  have key:∃ b,Zi K h = some b∧Z21 K h = some b:=by
   obtain ⟨N,r⟩:=h
   have c1:Z2e K r.2.2.1 = some bc:=c1
   have c2:Z33 K r.2.2.1 = some bc:=c2
   by_cases h0:N = 0
   ·subst h0; exact house0 hK r bc bp l1 c1 c2 p1 p2 l2
   by_cases h1:N = 1
   ·subst h1; exact house1 hK r bc bp l1 c1 c2 p1 p2 l2
   by_cases h2:N = 2
   ·subst h2; exact house2 hK r bc bp l1 c1 c2 p1 p2 l2
   by_cases h3:N = 3
   ·subst h3; exact house3 hK r bc bp l1 c1 c2 p1 p2 l2
   by_cases h4:N = 4
   ·subst h4; exact house4 hK r bc bp l1 c1 c2 p1 p2 l2
   have hsp:Zi K ((N,r):Z3) = some false:=by
    cases N with
    | ofNat n =>
     obtain ⟨m,rfl⟩:∃ m,n = m + 5:=⟨n - 5,by
      have a0:n≠0:=fun e=>h0 (by rw [e]; rfl)
      have a1:n≠1:=fun e=>h1 (by rw [e]; rfl)
      have a2:n≠2:=fun e=>h2 (by rw [e]; rfl)
      have a3:n≠3:=fun e=>h3 (by rw [e]; rfl)
      have a4:n≠4:=fun e=>h4 (by rw [e]; rfl)
      omega⟩
     rw [Zi.eq5,l1]; rfl
    | negSucc n=>rw [Zi.eqn,l1]; rfl
   refine ⟨false,hsp,?_⟩
   rw [Z21.eq,l2,Option.bind_some,br_false (c:=!true) rfl]
   show br ((N:Int) == 0) _ _ = _
   rw [br_false (beq_false h0),br_false (beq_false h1),br_false (beq_false h2),br_false (beq_false h3),br_false (beq_false h4)]
  obtain ⟨b,b1,b2⟩:=key
  exact ⟨b,b1,b2,fun _=>hl⟩
end F5
/- The world: sockets and lists; what the reference asks of a house in it. -/
namespace F5
set_option linter.unusedSimpArgs false
open Go Go.Fil Go.Proofs Go.Fil.Cf
set_option maxRecDepth 100000
set_option linter.unusedVariables false
theorem nodup_le {α:Type}:∀ (l m:List α),l.Nodup→(∀ x∈l,x∈m)→l.length≤m.length
 | [],m,_,_=>by simp
 | a :: l,m,hn,hs=>by
  obtain ⟨s,t,rfl⟩:=List.append_of_mem (hs a (by simp))
  rw [List.nodup_cons] at hn
  have:=nodup_le l (s ++ t) hn.2 (fun x hx=>by
   have h1:=hs x (by simp [hx])
   rcases List.mem_append.1 h1 with h | h
   ·exact List.mem_append.2 (.inl h)
   ·rcases List.mem_cons.1 h with h | h
    ·exact absurd (h ▸ hx) hn.1
    ·exact List.mem_append.2 (.inr h))
  simp at this ⊢
  omega
theorem nodup_all {α:Type} {l m:List α} (hn:l.Nodup) (hs:∀ x∈l,x∈m) (hl:m.length≤l.length):∀ x∈m,x∈l:=by
 intro b hb
 by_cases h:b∈l
 ·exact h
 ·have:=nodup_le (b :: l) m (List.nodup_cons.2 ⟨h,hn⟩) (fun x hx=>by
   rcases List.mem_cons.1 hx with rfl | hx
   ·exact hb
   ·exact hs x hx)
  simp at this
  omega
theorem two_rows {A L B1 B2:List Int} (nA:A.Nodup) (nL:L.Nodup) (n1:B1.Nodup) (n2:B2.Nodup) (hd:∀ x,x∈B1→x∈B2→False) :
  ((∀ x∈A,x∈B1)∧(∀ x∈L,x∈B2)∧(∀ x,x∈B1∨x∈B2→x∈A∨x∈L))↔((∀ x∈B1,x∈A)∧(∀ x∈B2,x∈L)∧B1.length + B2.length = A.length + L.length):=by
 constructor
 ·rintro ⟨a,b,c⟩
  have h1:∀ x∈B1,x∈A:=fun x hx=>(c x (.inl hx)).elim id (fun h=>(hd x hx (b x h)).elim)
  have h2:∀ x∈B2,x∈L:=fun x hx=>(c x (.inr hx)).elim (fun h=>(hd x (a x h) hx).elim) id
  have e1:=nodup_le A B1 nA a
  have e2:=nodup_le L B2 nL b
  have e3:=nodup_le B1 A n1 h1
  have e4:=nodup_le B2 L n2 h2
  exact ⟨h1,h2,by omega⟩
 ·rintro ⟨a,b,c⟩
  have e3:=nodup_le B1 A n1 a
  have e4:=nodup_le B2 L n2 b
  exact ⟨nodup_all n1 a (by omega),nodup_all n2 b (by omega),fun x hx=>hx.elim (fun h=>.inl (a x h)) (fun h=>.inr (b x h))⟩
theorem rise {id:Nat→Int} {m:Nat} (h:∀ j,j < m→0 < j→id (j - 1) < id j):∀ (d i:Nat),i + d + 1 < m→id i < id (i + d + 1)
 | 0,i,hi=>by have:=h (i + 1) (by omega) (by omega); simpa using this
 | d + 1,i,hi=>by
  have h1:=rise h d i (by omega)
  have h2:=h (i + d + 2) (by omega) (by omega)
  have e:i + d + 2 - 1 = i + d + 1:=by omega
  rw [e] at h2
  show id i < id (i + (d + 1) + 1)
  have e2:i + (d + 1) + 1 = i + d + 2:=by omega
  rw [e2]
  omega
theorem rise_lt {id:Nat→Int} {m:Nat} (h:∀ j,j < m→0 < j→id (j - 1) < id j) {i j:Nat} (hij:i < j) (hj:j < m):id i < id j:=by
 have:=rise h (j - i - 1) i (by omega)
 have e:i + (j - i - 1) + 1 = j:=by omega
 rwa [e] at this
theorem rise_inj {id:Nat→Int} {m:Nat} (h:∀ j,j < m→0 < j→id (j - 1) < id j) {i j:Nat} (hi:i < m) (hj:j < m) (e:id i = id j):i = j:=by
 rcases Nat.lt_trichotomy i j with g | g | g
 ·have:=rise_lt h g hj; omega
 ·exact g
 ·have:=rise_lt h g hi; omega
theorem rise_nodup {α:Type} (l:List α) (f:α→Int) (z:α) (p:α→Bool) (h:∀ j,j < l.length→0 < j→f (l.getD (j - 1) z) < f (l.getD j z)):((l.filter p).map f).Nodup:=by
 have hp:l.Pairwise (fun a b=>f a < f b):=by
  rw [List.pairwise_iff_getElem]
  intro i j hi hj hij
  have:=rise_lt (id:=fun j=>f (l.getD j z)) (m:=l.length) h hij hj
  simpa [List.getD_eq_getElem?_getD,List.getElem?_eq_getElem hi,List.getElem?_eq_getElem hj] using this
 have h2:=hp.filter p
 rw [List.Nodup,List.pairwise_map]
 exact h2.imp (fun g=>by omega)
abbrev bitv (m n:Int):Int:=Fil.bits .and .i64 (Int.fdiv m (2 ^ (min (Int.toNat n) (IntKind.bits .i64)))) 1
theorem bitv_01 {m n:Int} (h0:1≤m) (h1:m≤3) (hn:n = 0∨n = 1):bitv m n = 0∨bitv m n = 1:=by
 have hm:m = 1∨m = 2∨m = 3:=by omega
 rcases hm with rfl | rfl | rfl <;> rcases hn with rfl | rfl <;> decide +kernel
theorem sockAt_run {K:Nat} (l:List Z8) (hl:l.length≤1048576) (n:Int):∀ (q i k:Nat),i + q = l.length→q < k→(∀ j,j < i→(sockAt l j).1≠n)→∃ r:Int,Z6x K k l n (i:Int) = some r∧Found l.length (fun j=>(sockAt l j).1) n r
 | 0,i,k + 1,hi,hk,hb=>by
  rw [Z6x.step,br_false (decide_eq_false (by omega))]
  exact ⟨-1,rfl,.inl ⟨by omega,fun j hj=>hb j (by omega)⟩⟩
 | q + 1,i,k + 1,hi,hk,hb=>by
  rw [Z6x.step,br_true (decide_eq_true (by omega)),br_true (by simp; omega),show (i:Int).toNat = i by omega,wrap_id (k:=(i:Int) + 1) (by omega) (by omega)]
  by_cases e:(sockAt l i).1 = n
  ·rw [br_true (beq_true e)]
   exact ⟨_,rfl,.inr ⟨i,by omega,rfl,e⟩⟩
  ·rw [br_false (beq_false e)]
   have:=sockAt_run (K:=K) l hl n q (i + 1) k (by omega) (by omega) (fun j hj=>by
    by_cases ej:j = i
    ·subst ej; exact e
    ·exact hb j (by omega))
   rwa [Int.natCast_add] at this
 | _,_,0,_,h,_=>absurd h (Nat.not_lt_zero _)
theorem sockAt_s {K:Nat} (hK:maxLen + 2≤K) (l:List Z8) (hl:l.length≤1048576) (n:Int):∃ r:Int,Zal K l n = some r∧Found l.length (fun j=>(sockAt l j).1) n r:=by
 have hm:maxLen = 2 ^ 63 - 1:=rfl
 obtain ⟨r,r1,r2⟩:=sockAt_run (K:=K) l hl n l.length 0 K (by omega) (by omega) (fun j hj=>absurd hj (by omega))
 exact ⟨r,by rw [Zal.eq]; exact r1,r2⟩
/-- The world's sizes. -/
structure WS (x:Z2):Prop where
 ls:x.2.2.1.length≤1048576
 lh:x.2.2.2.1.length≤1048576
 lw:x.2.2.2.2.1.length≤1048576
 ln:x.2.2.2.2.2.1.length≤1048576
 hs:∀ h∈x.2.2.2.1,HS h
 db:DB x.2.1
/-- A socket of kind c, with the number id, held by n. -/
def Held (x:Z2) (n c id:Int):Prop:=∃ i,i < x.2.2.1.length∧(sockAt x.2.2.1 i).1 = id∧(sockAt x.2.2.1 i).2.1 = c∧bitv (sockAt x.2.2.1 i).2.2.1 n≠0
theorem found_held {x:Z2} {n c id r:Int} (hp:SocksP x.2.2.1) (hf:Found x.2.2.1.length (fun j=>(sockAt x.2.2.1 j).1) id r):Held x n c id↔0≤r∧(sockAt x.2.2.1 r.toNat).2.1 = c∧bitv (sockAt x.2.2.1 r.toNat).2.2.1 n≠0:=by
 constructor
 ·rintro ⟨i,i1,i2,i3,i4⟩
  rcases hf with ⟨_,g⟩ | ⟨j,j1,rfl,j3⟩
  ·exact absurd i2 (g i i1)
  ·have e:i = j:=rise_inj (id:=fun j=>(sockAt x.2.2.1 j).1) (m:=x.2.2.1.length) (fun j hj h0=>(hp.1 j hj).2 h0) i1 j1 (i2.trans j3.symm)
   subst e
   exact ⟨by omega,i3,i4⟩
 ·rintro ⟨r0,r1,r2⟩
  rcases hf with ⟨g,_⟩ | ⟨j,j1,rfl,j3⟩
  ·omega
  ·exact ⟨j,j1,j3,r1,r2⟩
end F5
/- The world: what each program asks of a house in it. -/
namespace F5
set_option linter.unusedSimpArgs false
open Go Go.Fil Go.Proofs Go.Fil.Cf
set_option maxRecDepth 100000
set_option linter.unusedVariables false
def AskIn (x:Z2) (n:Int) (h:Z3) (j:Nat):Prop:=Held x n 1 (akAt h.2.2.2.2.2.1 j).1∧(akAt h.2.2.2.2.2.1 j).2.2.2.2.2.2.2.1 < x.2.2.2.2.2.2.2.1
def LineIn (x:Z2) (n:Int) (h:Z3) (j:Nat):Prop:=Held x n 2 (lnAt h.2.2.2.2.2.2.1 j).1∧(lnAt h.2.2.2.2.2.2.1 j).2.2.2.2.2.2.1 < x.2.2.2.2.2.2.2.1
def SockIn (x:Z2) (n:Int) (h:Z3) (i:Nat):Prop:=bitv (sockAt x.2.2.1 i).2.2.1 n = 1→(∃ j,j < h.2.2.2.2.2.1.length∧(akAt h.2.2.2.2.2.1 j).1 = (sockAt x.2.2.1 i).1)∨(∃ j,j < h.2.2.2.2.2.2.1.length∧(lnAt h.2.2.2.2.2.2.1 j).1 = (sockAt x.2.2.1 i).1)
theorem found_ex {m:Nat} {id:Nat→Int} {n r:Int} (h:Found m id n r):¬ r < 0↔∃ j,j < m∧id j = n:=by
 rw [found_neg h]
 constructor
 ·intro g
  apply Classical.byContradiction
  intro hn
  exact g (fun j hj e=>hn ⟨j,hj,e⟩)
 ·rintro ⟨j,hj,e⟩ g
  exact g j hj e
theorem loop19 {K:Nat} (hK:maxLen + 2≤K) (x:Z2) (hx:WS x) (n:Int) (hn:n = 0∨n = 1) (h:Z3) (hs:HS h):Says (Z20 K K n 0 x h) ((∀ i,i < x.2.2.1.length→SockIn x n h i)∧True):=by
 have hls:=hx.ls
 refine says_loop0 (L:=fun k v=>Z20 K k n v x h) hK (n:=x.2.2.1.length) (by omega) (P:=SockIn x n h) ?_ ?_
 ·intro k i hi
  have hin:(decide (0≤(i:Int)) && decide ((i:Int) < ((x.2.2.1.length:Nat):Int))) = true:=by simp; omega
  obtain ⟨r,r1,_,r2⟩:=askAt hK h.2.2.2.2.2.1 hs.la (sockAt x.2.2.1 i).1
  obtain ⟨t,t1,_,t2⟩:=lineAt hK h.2.2.2.2.2.2.1 hs.ll (sockAt x.2.2.1 i).1
  show (_→Z20 K (k + 1) n (i:Int) x h = _)∧(_→Z20 K (k + 1) n (i:Int) x h = _)
  rw [Z20.step,br_true (decide_eq_true (by omega)),hin]
  simp only [br_t]
  rw [br_false (c:=decide ((n:Int) < 0)) (decide_eq_false (by omega)),show (i:Int).toNat = i by omega,r1,t1]
  simp only [Option.bind_some]
  rw [wrap_id (k:=(i:Int) + 1) (by omega) (by omega)]
  unfold SockIn
  by_cases b1:bitv (sockAt x.2.2.1 i).2.2.1 n = 1
  ·rw [br_true (beq_true b1)]
   by_cases hr:r < 0
   ·rw [br_true (decide_eq_true hr)]
    by_cases ht:t < 0
    ·rw [br_true (decide_eq_true ht)]
     exact ⟨fun g=>(g b1).elim (fun e=>absurd hr ((found_ex r2).2 e)) (fun e=>absurd ht ((found_ex t2).2 e)),fun _=>rfl⟩
    ·rw [br_false (decide_eq_false ht)]
     exact ⟨fun _=>rfl,fun g=>absurd (fun _=>.inr ((found_ex t2).1 ht)) g⟩
   ·rw [br_false (decide_eq_false hr)]
    exact ⟨fun _=>rfl,fun g=>absurd (fun _=>.inl ((found_ex r2).1 hr)) g⟩
  ·rw [br_false (beq_false b1)]
   exact ⟨fun _=>rfl,fun g=>absurd (fun e=>absurd e b1) g⟩
 ·intro k
  show Says (Z20 K (k + 1) n (x.2.2.1.length:Int) x h) _
  rw [Z20.step,br_false (decide_eq_false (by omega))]
  exact Says.t trivial
theorem loop13 {K:Nat} (hK:maxLen + 2≤K) (x:Z2) (hx:WS x) (hp:SocksP x.2.2.1) (n:Int) (hn:n = 0∨n = 1) (h:Z3) (hs:HS h):Says (Z2i K K n 0 x h) ((∀ j,j < h.2.2.2.2.2.2.1.length→LineIn x n h j)∧(∀ i,i < x.2.2.1.length→SockIn x n h i)∧True):=by
 have hls:=hx.ls
 have hll:=hs.ll
 refine says_loop0 (L:=fun k v=>Z2i K k n v x h) hK (n:=h.2.2.2.2.2.2.1.length) (by omega) (P:=LineIn x n h) ?_ ?_
 ·intro k j hj
  have hin:(decide (0≤(j:Int)) && decide ((j:Int) < ((h.2.2.2.2.2.2.1.length:Nat):Int))) = true:=by simp; omega
  obtain ⟨r,r1,r2⟩:=sockAt_s hK x.2.2.1 hx.ls (lnAt h.2.2.2.2.2.2.1 j).1
  have hh:=found_held (n:=n) (c:=2) hp r2
  show (_→Z2i K (k + 1) n (j:Int) x h = _)∧(_→Z2i K (k + 1) n (j:Int) x h = _)
  rw [Z2i.step,br_true (decide_eq_true (by omega)),hin]
  simp only [br_t]
  rw [show (j:Int).toNat = j by omega,r1]
  simp only [Option.bind_some]
  rw [br_false (c:=decide ((n:Int) < 0)) (decide_eq_false (by omega)),wrap_id (k:=(j:Int) + 1) (by omega) (by omega)]
  unfold LineIn
  by_cases hr:r < 0
  ·rw [br_true (decide_eq_true hr)]
   exact ⟨fun g=>absurd (hh.1 g.1).1 (by omega),fun _=>rfl⟩
  ·have hrin:(decide (0≤r) && decide (r < ((x.2.2.1.length:Nat):Int))) = true:=by
    rcases r2 with ⟨g,_⟩ | ⟨i,i1,rfl,_⟩
    ·omega
    ·simp; omega
   rw [br_false (decide_eq_false hr),hrin]
   simp only [br_t]
   by_cases c2:(sockAt x.2.2.1 r.toNat).2.1 = 2
   ·rw [br_false (bne_false c2)]
    by_cases b0:bitv (sockAt x.2.2.1 r.toNat).2.2.1 n = 0
    ·rw [br_true (beq_true b0)]
     exact ⟨fun g=>absurd b0 (hh.1 g.1).2.2,fun _=>rfl⟩
    ·rw [br_false (beq_false b0)]
     by_cases sr:(lnAt h.2.2.2.2.2.2.1 j).2.2.2.2.2.2.1 < x.2.2.2.2.2.2.2.1
     ·rw [br_false]
      rotate_left
      ·exact decide_eq_false (fun e=>absurd (show (lnAt h.2.2.2.2.2.2.1 j).2.2.2.2.2.2.1 ≥ x.2.2.2.2.2.2.2.1 from e) (by omega))
      exact ⟨fun _=>rfl,fun g=>absurd ⟨hh.2 ⟨by omega,c2,b0⟩,sr⟩ g⟩
     ·rw [br_true]
      rotate_left
      ·exact decide_eq_true (show (lnAt h.2.2.2.2.2.2.1 j).2.2.2.2.2.2.1 ≥ x.2.2.2.2.2.2.2.1 by omega)
      exact ⟨fun g=>absurd g.2 sr,fun _=>rfl⟩
   ·rw [br_true (bne_true c2)]
    exact ⟨fun g=>absurd (hh.1 g.1).2.1 c2,fun _=>rfl⟩
 ·intro k
  show Says (Z2i K (k + 1) n (h.2.2.2.2.2.2.1.length:Int) x h) _
  rw [Z2i.step,br_false (decide_eq_false (by omega))]
  exact loop19 hK x hx n hn h hs
def InP (x:Z2) (n:Int) (h:Z3):Prop:=(∀ j,j < h.2.2.2.2.2.1.length→AskIn x n h j)∧(∀ j,j < h.2.2.2.2.2.2.1.length→LineIn x n h j)∧(∀ i,i < x.2.2.1.length→SockIn x n h i)∧True
theorem loop7 {K:Nat} (hK:maxLen + 2≤K) (x:Z2) (hx:WS x) (hp:SocksP x.2.2.1) (n:Int) (hn:n = 0∨n = 1) (h:Z3) (hs:HS h):Says (Z1q K K n 0 x h) (InP x n h):=by
 have hls:=hx.ls
 have hla:=hs.la
 refine says_loop0 (L:=fun k v=>Z1q K k n v x h) hK (n:=h.2.2.2.2.2.1.length) (by omega) (P:=AskIn x n h) ?_ ?_
 ·intro k j hj
  have hin:(decide (0≤(j:Int)) && decide ((j:Int) < ((h.2.2.2.2.2.1.length:Nat):Int))) = true:=by simp; omega
  obtain ⟨r,r1,r2⟩:=sockAt_s hK x.2.2.1 hx.ls (akAt h.2.2.2.2.2.1 j).1
  have hh:=found_held (n:=n) (c:=1) hp r2
  show (_→Z1q K (k + 1) n (j:Int) x h = _)∧(_→Z1q K (k + 1) n (j:Int) x h = _)
  rw [Z1q.step,br_true (decide_eq_true (by omega)),hin]
  simp only [br_t]
  rw [show (j:Int).toNat = j by omega,r1]
  simp only [Option.bind_some]
  rw [br_false (c:=decide ((n:Int) < 0)) (decide_eq_false (by omega)),wrap_id (k:=(j:Int) + 1) (by omega) (by omega)]
  unfold AskIn
  by_cases hr:r < 0
  ·rw [br_true (decide_eq_true hr)]
   exact ⟨fun g=>absurd (hh.1 g.1).1 (by omega),fun _=>rfl⟩
  ·have hrin:(decide (0≤r) && decide (r < ((x.2.2.1.length:Nat):Int))) = true:=by
    rcases r2 with ⟨g,_⟩ | ⟨i,i1,rfl,_⟩
    ·omega
    ·simp; omega
   rw [br_false (decide_eq_false hr),hrin]
   simp only [br_t]
   by_cases c2:(sockAt x.2.2.1 r.toNat).2.1 = 1
   ·rw [br_false (bne_false c2)]
    by_cases b0:bitv (sockAt x.2.2.1 r.toNat).2.2.1 n = 0
    ·rw [br_true (beq_true b0)]
     exact ⟨fun g=>absurd b0 (hh.1 g.1).2.2,fun _=>rfl⟩
    ·rw [br_false (beq_false b0)]
     by_cases sr:(akAt h.2.2.2.2.2.1 j).2.2.2.2.2.2.2.1 < x.2.2.2.2.2.2.2.1
     ·rw [br_false]
      rotate_left
      ·exact decide_eq_false (fun e=>absurd (show (akAt h.2.2.2.2.2.1 j).2.2.2.2.2.2.2.1 ≥ x.2.2.2.2.2.2.2.1 from e) (by omega))
      exact ⟨fun _=>rfl,fun g=>absurd ⟨hh.2 ⟨by omega,c2,b0⟩,sr⟩ g⟩
     ·rw [br_true]
      rotate_left
      ·exact decide_eq_true (show (akAt h.2.2.2.2.2.1 j).2.2.2.2.2.2.2.1 ≥ x.2.2.2.2.2.2.2.1 by omega)
      exact ⟨fun g=>absurd g.2 sr,fun _=>rfl⟩
   ·rw [br_true (bne_true c2)]
    exact ⟨fun g=>absurd (hh.1 g.1).2.1 c2,fun _=>rfl⟩
 ·intro k
  show Says (Z1q K (k + 1) n (h.2.2.2.2.2.1.length:Int) x h) _
  rw [Z1q.step,br_false (decide_eq_false (by omega))]
  exact loop13 hK x hx hp n hn h hs
end F5
/- The world: what the program asks of a house in it; both ask the same. -/
namespace F5
set_option linter.unusedSimpArgs false
open Go Go.Fil Go.Proofs Go.Fil.Cf
set_option maxRecDepth 100000
set_option linter.unusedVariables false
def on (n:Int) (s:Z8):Bool:=decide (bitv s.2.2.1 n≠0)
def cnt (n:Int) (l:List Z8):Nat:=(l.filter (on n)).length
def Takes (x:Z2) (n:Int) (h:Z3) (i:Nat):Prop:=bitv (sockAt x.2.2.1 i).2.2.1 n≠0→((sockAt x.2.2.1 i).2.1 = 1→∃ j,j < h.2.2.2.2.2.1.length∧(akAt h.2.2.2.2.2.1 j).1 = (sockAt x.2.2.1 i).1)∧((sockAt x.2.2.1 i).2.1 = 2→∃ j,j < h.2.2.2.2.2.2.1.length∧(lnAt h.2.2.2.2.2.2.1 j).1 = (sockAt x.2.2.1 i).1)
abbrev houseAt (x:Z2) (n:Int):Z3:=List.getD x.2.2.2.1 n.toNat Z0.zero
theorem held_run {K:Nat} (hK:maxLen + 2≤K) (x:Z2) (hx:WS x) (n:Int) (hn:n = 0∨n = 1) (hlen:x.2.2.2.1.length = 2) (hs:HS (houseAt x n)) (hkind:∀ i,i < x.2.2.1.length→(sockAt x.2.2.1 i).2.1 = 1∨(sockAt x.2.2.1 i).2.1 = 2):∀ (q i k c:Nat),i + q = x.2.2.1.length→q < k→c≤i →
  Says (Z34 K k x n (c:Int) (i:Int) x) ((∀ i',i≤i'→i' < x.2.2.1.length→Takes x n (houseAt x n) i')∧c + cnt n (x.2.2.1.drop i) = (houseAt x n).2.2.2.2.2.1.length + (houseAt x n).2.2.2.2.2.2.1.length)
 | 0,i,k + 1,c,hi,hk,hc=>by
  have hls:=hx.ls
  have hla:=hs.la
  have hll:=hs.ll
  have hh:(decide ((0:Int)≤n) && decide (n < ((x.2.2.2.1.length:Nat):Int))) = true:=by simp; omega
  rw [Z34.step,br_false (decide_eq_false (by omega)),hh]
  simp only [br_t]
  show Says (some ((c:Int) == IntKind.wrap .i64 ((((houseAt x n).2.2.2.2.2.1.length:Nat):Int) + (((houseAt x n).2.2.2.2.2.2.1.length:Nat):Int)))) _
  rw [wrap_id (by omega) (by omega),List.drop_eq_nil_of_le (by omega)]
  refine ⟨_,rfl,?_⟩
  rw [beq_iff_eq]
  constructor
  ·intro e
   exact ⟨fun i' h1 h2=>absurd h2 (by omega),by show c + 0 = _; omega⟩
  ·rintro ⟨_,e⟩
   have e:c + 0 = _:=e
   omega
 | q + 1,i,k + 1,c,hi,hk,hc=>by
  have hls:=hx.ls
  have hlt:i < x.2.2.1.length:=by omega
  have hin:(decide (0≤(i:Int)) && decide ((i:Int) < ((x.2.2.1.length:Nat):Int))) = true:=by simp; omega
  have hh:(decide ((0:Int)≤n) && decide (n < ((x.2.2.2.1.length:Nat):Int))) = true:=by simp; omega
  obtain ⟨r,_,r1,r2⟩:=askAt hK (houseAt x n).2.2.2.2.2.1 hs.la (sockAt x.2.2.1 i).1
  obtain ⟨t,_,t1,t2⟩:=lineAt hK (houseAt x n).2.2.2.2.2.2.1 hs.ll (sockAt x.2.2.1 i).1
  have hd:x.2.2.1.drop i = sockAt x.2.2.1 i :: x.2.2.1.drop (i + 1):=by
   rw [List.drop_eq_getElem_cons hlt,sockAt,List.getD_eq_getElem?_getD,List.getElem?_eq_getElem hlt]
   rfl
  have nxt:∀ c',c'≤i + 1→Takes x n (houseAt x n) i→c' + cnt n (x.2.2.1.drop (i + 1)) = c + cnt n (x.2.2.1.drop i)→Says (Z34 K k x n (c':Int) ((i:Int) + 1) x) ((∀ i',i≤i'→i' < x.2.2.1.length→Takes x n (houseAt x n) i')∧c + cnt n (x.2.2.1.drop i) = (houseAt x n).2.2.2.2.2.1.length + (houseAt x n).2.2.2.2.2.2.1.length):=by
   intro c' hc' ht he
   have:=held_run hK x hx n hn hlen hs hkind q (i + 1) k c' (by omega) (by omega) hc'
   rw [Int.natCast_add] at this
   rw [he] at this
   refine this.imp ⟨fun g=>⟨fun i' h1 h2=>?_,g.2⟩,fun g=>⟨fun i' h1 h2=>g.1 i' (by omega) h2,g.2⟩⟩
   by_cases e:i' = i
   ·subst e; exact ht
   ·exact g.1 i' (by omega) h2
  rw [Z34.step,br_true (decide_eq_true (by omega)),hin,hh]
  simp only [br_t]
  rw [br_false (c:=decide ((n:Int) < 0)) (decide_eq_false (by omega)),show (i:Int).toNat = i by omega,r1,t1]
  simp only [Option.bind_some]
  rw [wrap_id (k:=(i:Int) + 1) (by omega) (by omega),wrap_id (k:=(c:Int) + 1) (by omega) (by omega)]
  by_cases b0:bitv (sockAt x.2.2.1 i).2.2.1 n = 0
  ·rw [br_true (beq_true b0)]
   refine nxt c (by omega) (fun e=>absurd b0 e) ?_
   have hon:on n (sockAt x.2.2.1 i) = false:=decide_eq_false (fun g=>g b0)
   rw [hd,cnt,cnt,List.filter_cons,hon,if_neg (by simp)]
  ·rw [br_false (beq_false b0)]
   have hcnt:(c + 1) + cnt n (x.2.2.1.drop (i + 1)) = c + cnt n (x.2.2.1.drop i):=by
    have hon:on n (sockAt x.2.2.1 i) = true:=decide_eq_true b0
    rw [hd,cnt,cnt,List.filter_cons,hon,if_pos rfl,List.length_cons]
    omega
   have go:=nxt (c + 1) (by omega)
   rw [Int.natCast_add] at go
   rcases hkind i hlt with k1 | k2
   ·rw [br_true (beq_true k1)]
    by_cases hr:r < 0
    ·rw [br_true (decide_eq_true hr)]
     exact Says.f (fun g=>absurd hr ((found_ex r2).2 ((g.1 i (Nat.le_refl _) hlt b0).1 k1)))
    ·rw [br_false (decide_eq_false hr),br_false (c:=((sockAt x.2.2.1 i).2.1:Int) == 2) (beq_false (by omega))]
     exact go (fun _=>⟨fun _=>(found_ex r2).1 hr,fun e=>by omega⟩) hcnt
   ·rw [br_false (c:=((sockAt x.2.2.1 i).2.1:Int) == 1) (beq_false (by omega)),br_true (beq_true k2)]
    by_cases ht:t < 0
    ·rw [br_true (decide_eq_true ht)]
     exact Says.f (fun g=>absurd ht ((found_ex t2).2 ((g.1 i (Nat.le_refl _) hlt b0).2 k2)))
    ·rw [br_false (decide_eq_false ht)]
     exact go (fun _=>⟨fun e=>by omega,fun _=>(found_ex t2).1 ht⟩) hcnt
 | _,_,0,_,_,h,_=>absurd h (Nat.not_lt_zero _)
theorem cnt_two (n:Int):∀ l:List Z8,(∀ s∈l,s.2.1 = 1∨s.2.1 = 2)→cnt n l = (l.filter fun s=>on n s && (s.2.1 == 1)).length + (l.filter fun s=>on n s && (s.2.1 == 2)).length
 | [],_=>rfl
 | s :: l,h=>by
  have ih:=cnt_two n l (fun t ht=>h t (by simp [ht]))
  unfold cnt at ih ⊢
  rcases h s (by simp) with e | e
  ·cases hon:on n s <;> simp [List.filter_cons,hon,e,ih] <;> omega
  ·cases hon:on n s <;> simp [List.filter_cons,hon,e,ih] <;> omega
theorem mem_at {α:Type} {l:List α} {z:α} {P:α→Prop}:(∃ a∈l,P a)↔∃ j,j < l.length∧P (l.getD j z):=by
 constructor
 ·rintro ⟨a,ha,hp⟩
  obtain ⟨j,hj,rfl⟩:=List.getElem_of_mem ha
  exact ⟨j,hj,by rwa [List.getD_eq_getElem?_getD,List.getElem?_eq_getElem hj]⟩
 ·rintro ⟨j,hj,hp⟩
  rw [List.getD_eq_getElem?_getD,List.getElem?_eq_getElem hj] at hp
  exact ⟨l[j],List.getElem_mem hj,hp⟩
end F5
/- The world: a house in it, both ask the same. -/
namespace F5
set_option linter.unusedSimpArgs false
open Go Go.Fil Go.Proofs Go.Fil.Cf
set_option maxRecDepth 100000
set_option linter.unusedVariables false
def HeldP (x:Z2) (n:Int) (h:Z3):Prop:=(∀ i,i < x.2.2.1.length→Takes x n h i)∧cnt n x.2.2.1 = h.2.2.2.2.2.1.length + h.2.2.2.2.2.2.1.length
theorem kinds {x:Z2} (hp:SocksP x.2.2.1):∀ i,i < x.2.2.1.length→(sockAt x.2.2.1 i).2.1 = 1∨(sockAt x.2.2.1 i).2.1 = 2:=fun i hi=>by
 have:=(hp.1 i hi).1.2.1
 omega
theorem held {K:Nat} (hK:maxLen + 2≤K) (x:Z2) (hx:WS x) (hp:SocksP x.2.2.1) (n:Int) (hn:n = 0∨n = 1) (hlen:x.2.2.2.1.length = 2) (hs:HS (houseAt x n)):Says (Zan K x n) (HeldP x n (houseAt x n)):=by
 have hm:maxLen = 2 ^ 63 - 1:=rfl
 have hls:=hx.ls
 rw [Zan.eq]
 have:=held_run hK x hx n hn hlen hs (kinds hp) x.2.2.1.length 0 K 0 (by omega) (by omega) (by omega)
 refine this.imp ?_
 rw [List.drop_zero,Nat.zero_add]
 exact ⟨fun g=>⟨fun i hi=>g.1 i (by omega) hi,g.2⟩,fun g=>⟨fun i _ hi=>g.1 i hi,g.2⟩⟩
def rowB (x:Z2) (n c:Int):List Int:=(x.2.2.1.filter fun s=>on n s && (s.2.1 == c)).map (·.1)
theorem memB (x:Z2) (n c y:Int):y∈rowB x n c↔Held x n c y:=by
 unfold rowB Held
 rw [List.mem_map]
 have:=mem_at (l:=x.2.2.1) (z:=Z5.zero) (P:=fun s=>s.1 = y∧s.2.1 = c∧bitv s.2.2.1 n≠0)
 refine Iff.trans ?_ this
 constructor
 ·rintro ⟨s,hs,rfl⟩
  rw [List.mem_filter] at hs
  obtain ⟨h1,h2⟩:=hs
  simp only [Bool.and_eq_true,beq_iff_eq] at h2
  exact ⟨s,h1,rfl,h2.2,of_decide_eq_true h2.1⟩
 ·rintro ⟨s,h1,h2,h3,h4⟩
  refine ⟨s,List.mem_filter.2 ⟨h1,?_⟩,h2⟩
  simp only [Bool.and_eq_true,beq_iff_eq]
  exact ⟨decide_eq_true h4,h3⟩
def rowA (h:Z3):List Int:=(h.2.2.2.2.2.1.filter fun _=>true).map (·.1)
def rowL (h:Z3):List Int:=(h.2.2.2.2.2.2.1.filter fun _=>true).map (·.1)
theorem memA (h:Z3) (y:Int):y∈rowA h↔∃ j,j < h.2.2.2.2.2.1.length∧(akAt h.2.2.2.2.2.1 j).1 = y:=by
 unfold rowA
 rw [List.mem_map]
 have:=mem_at (l:=h.2.2.2.2.2.1) (z:=Z4.zero) (P:=fun s=>s.1 = y)
 refine Iff.trans ?_ this
 simp
theorem memL (h:Z3) (y:Int):y∈rowL h↔∃ j,j < h.2.2.2.2.2.2.1.length∧(lnAt h.2.2.2.2.2.2.1 j).1 = y:=by
 unfold rowL
 rw [List.mem_map]
 have:=mem_at (l:=h.2.2.2.2.2.2.1) (z:=Zb.zero) (P:=fun s=>s.1 = y)
 refine Iff.trans ?_ this
 simp
theorem same_held {K:Nat} (x:Z2) (hp:SocksP x.2.2.1) (n:Int) (hn:n = 0∨n = 1) (h:Z3) (hl:ListsP K h) :
  ((∀ j,j < h.2.2.2.2.2.1.length→Held x n 1 (akAt h.2.2.2.2.2.1 j).1)∧(∀ j,j < h.2.2.2.2.2.2.1.length→Held x n 2 (lnAt h.2.2.2.2.2.2.1 j).1)∧(∀ i,i < x.2.2.1.length→SockIn x n h i))↔HeldP x n h:=by
 have nA:(rowA h).Nodup:=rise_nodup h.2.2.2.2.2.1 (·.1) Z4.zero _ (fun j hj h0=>(hl.1 j hj).2.1 h0)
 have nL:(rowL h).Nodup:=rise_nodup h.2.2.2.2.2.2.1 (·.1) Zb.zero _ (fun j hj h0=>(hl.2.1 j hj).2 h0)
 have nB:∀ c,(rowB x n c).Nodup:=fun c=>rise_nodup x.2.2.1 (·.1) Z5.zero _ (fun j hj h0=>(hp.1 j hj).2 h0)
 have hd:∀ y,y∈rowB x n 1→y∈rowB x n 2→False:=by
  intro y h1 h2
  obtain ⟨i,i1,i2,i3,_⟩:=(memB x n 1 y).1 h1
  obtain ⟨j,j1,j2,j3,_⟩:=(memB x n 2 y).1 h2
  have e:i = j:=rise_inj (id:=fun j=>(sockAt x.2.2.1 j).1) (m:=x.2.2.1.length) (fun j hj h0=>(hp.1 j hj).2 h0) i1 j1 (i2.trans j2.symm)
  subst e
  omega
 have key:=two_rows nA nL (nB 1) (nB 2) hd
 have lA:(rowA h).length = h.2.2.2.2.2.1.length:=by simp [rowA]
 have lL:(rowL h).length = h.2.2.2.2.2.2.1.length:=by simp [rowL]
 have lB:(rowB x n 1).length + (rowB x n 2).length = cnt n x.2.2.1:=by
  rw [cnt_two n x.2.2.1 (fun s hs=>by
   obtain ⟨i,hi,rfl⟩:=List.getElem_of_mem hs
   have:=kinds hp i hi
   rwa [sockAt,List.getD_eq_getElem?_getD,List.getElem?_eq_getElem hi] at this)]
  simp [rowB]
 have one:∀ i,i < x.2.2.1.length→bitv (sockAt x.2.2.1 i).2.2.1 n≠0→bitv (sockAt x.2.2.1 i).2.2.1 n = 1:=fun i hi hb=>by
  have hmask:=(hp.1 i hi).1.2.2.1
  rcases bitv_01 (m:=(sockAt x.2.2.1 i).2.2.1) (n:=n) hmask.1 hmask.2 hn with e | e
  ·exact absurd e hb
  ·exact e
 rw [lB,lA,lL] at key
 refine Iff.trans ?_ (key.trans ?_)
 ·constructor
  ·rintro ⟨a,b,c⟩
   refine ⟨fun y hy=>?_,fun y hy=>?_,fun y hy=>?_⟩
   ·obtain ⟨j,hj,rfl⟩:=(memA h y).1 hy
    exact (memB x n 1 _).2 (a j hj)
   ·obtain ⟨j,hj,rfl⟩:=(memL h y).1 hy
    exact (memB x n 2 _).2 (b j hj)
   ·rcases hy with hy | hy
    ·obtain ⟨i,i1,rfl,i3,i4⟩:=(memB x n 1 y).1 hy
     rcases c i i1 (one i i1 i4) with g | g
     ·exact .inl ((memA h _).2 g)
     ·exact .inr ((memL h _).2 g)
    ·obtain ⟨i,i1,rfl,i3,i4⟩:=(memB x n 2 y).1 hy
     rcases c i i1 (one i i1 i4) with g | g
     ·exact .inl ((memA h _).2 g)
     ·exact .inr ((memL h _).2 g)
  ·rintro ⟨a,b,c⟩
   refine ⟨fun j hj=>(memB x n 1 _).1 (a _ ((memA h _).2 ⟨j,hj,rfl⟩)),fun j hj=>(memB x n 2 _).1 (b _ ((memL h _).2 ⟨j,hj,rfl⟩)),fun i hi hb=>?_⟩
   have hb0:bitv (sockAt x.2.2.1 i).2.2.1 n≠0:=by omega
   have:(sockAt x.2.2.1 i).1∈rowA h∨(sockAt x.2.2.1 i).1∈rowL h:=by
    refine c _ ?_
    rcases kinds hp i hi with e | e
    ·exact .inl ((memB x n 1 _).2 ⟨i,hi,rfl,e,hb0⟩)
    ·exact .inr ((memB x n 2 _).2 ⟨i,hi,rfl,e,hb0⟩)
   exact this.elim (fun g=>.inl ((memA h _).1 g)) (fun g=>.inr ((memL h _).1 g))
 ·unfold HeldP
  constructor
  ·rintro ⟨a,b,c⟩
   exact ⟨fun i hi hb=>⟨fun e=>(memA h _).1 (a _ ((memB x n 1 _).2 ⟨i,hi,rfl,e,hb⟩)),fun e=>(memL h _).1 (b _ ((memB x n 2 _).2 ⟨i,hi,rfl,e,hb⟩))⟩,c⟩
  ·rintro ⟨a,c⟩
   refine ⟨fun y hy=>?_,fun y hy=>?_,c⟩
   ·obtain ⟨i,i1,rfl,i3,i4⟩:=(memB x n 1 y).1 hy
    exact (memA h _).2 ((a i i1 i4).1 i3)
   ·obtain ⟨i,i1,rfl,i3,i4⟩:=(memB x n 2 y).1 hy
    exact (memL h _).2 ((a i i1 i4).2 i3)
end F5
/- The world: a house in it, the whole. -/
namespace F5
set_option linter.unusedSimpArgs false
open Go Go.Fil Go.Proofs Go.Fil.Cf
set_option maxRecDepth 100000
set_option linter.unusedVariables false
def SerP (x:Z2) (h:Z3):Prop:=(∀ j,j < h.2.2.2.2.2.1.length→(akAt h.2.2.2.2.2.1 j).2.2.2.2.2.2.2.1 < x.2.2.2.2.2.2.2.1)∧(∀ j,j < h.2.2.2.2.2.2.1.length→(lnAt h.2.2.2.2.2.2.1 j).2.2.2.2.2.2.1 < x.2.2.2.2.2.2.2.1)
def EndP (kn:Z18) (n:Int) (h:Z3) (bs:Bool):Prop:=(h.1 = 2→h.2.1 = kn.2.2.2.2.1∧h.2.2.1 = kn.1∧kn.2.2.2.2.2.1 = n∧bs = true)∧(h.1 = 3→h.2.1≤kn.2.2.2.2.1)
theorem owned_i {K:Nat} (hK:maxLen + 2≤K) (x:Z2) (n:Int) (hn:n = 0∨n = 1) (hlen:x.2.2.2.1.length = 2) (hs:HS (houseAt x n)) (kn:Z18) (r:PC) (hr:Z2t K kn.2.1 = some r) (bs:Bool) (hb:Z2m K (houseAt x n).2.2.2.1 r.1 = some bs):Says (Z9r K x n kn) (SerP x (houseAt x n)∧EndP kn n (houseAt x n) bs):=by
 have hla:=hs.la
 have hll:=hs.ll
 have hin:(decide ((0:Int)≤n) && decide (n < ((x.2.2.2.1.length:Nat):Int))) = true:=by simp; omega
 have hend:Says (br (((houseAt x n).1:Int) == 2) ((Z2t K kn.2.1).bind fun y_1=>br (((houseAt x n).2.1:Int) == kn.2.2.2.2.1) (br (((houseAt x n).2.2.1:Int) == kn.1) (br ((kn.2.2.2.2.2.1:Int) == n) ((Z2m K (houseAt x n).2.2.2.1 y_1.1).bind fun y_2=>some y_2) (some false)) (some false)) (some false)) (br (((houseAt x n).1:Int) == 3) (some (decide (((houseAt x n).2.1:Int)≤kn.2.2.2.2.1))) (some true))) (EndP kn n (houseAt x n) bs):=by
  rw [hr,Option.bind_some,hb,Option.bind_some]
  simp only [br_some]
  refine ⟨_,rfl,?_⟩
  unfold EndP
  simp only [ite_t,beq_iff_eq,decide_eq_true_eq,Bool.false_eq_true]
  cases bs <;> grind
 rw [Z9r.eq,hin,br_t]
 have h9:Says (Z39 K K n 0 x kn (houseAt x n)) ((∀ j,j < (houseAt x n).2.2.2.2.2.2.1.length→(lnAt (houseAt x n).2.2.2.2.2.2.1 j).2.2.2.2.2.2.1 < x.2.2.2.2.2.2.2.1)∧EndP kn n (houseAt x n) bs):=by
  refine says_loop0 (L:=fun k v=>Z39 K k n v x kn (houseAt x n)) hK (n:=(houseAt x n).2.2.2.2.2.2.1.length) (by omega) ?_ ?_
  ·intro k i hi
   have hin:(decide (0≤(i:Int)) && decide ((i:Int) < (((houseAt x n).2.2.2.2.2.2.1.length:Nat):Int))) = true:=in_true (by omega) (by omega)
   show (_→Z39 K (k + 1) n (i:Int) x kn (houseAt x n) = _)∧(_→Z39 K (k + 1) n (i:Int) x kn (houseAt x n) = _)
   rw [Z39.step,br_true (decide_eq_true (by omega)),hin,br_t,show (i:Int).toNat = i by omega,wrap_id (k:=(i:Int) + 1) (by omega) (by omega)]
   by_cases sr:(lnAt (houseAt x n).2.2.2.2.2.2.1 i).2.2.2.2.2.2.1 < x.2.2.2.2.2.2.2.1
   ·rw [br_false]
    rotate_left
    ·exact decide_eq_false (fun e=>absurd (show (lnAt (houseAt x n).2.2.2.2.2.2.1 i).2.2.2.2.2.2.1 ≥ x.2.2.2.2.2.2.2.1 from e) (by omega))
    exact ⟨fun _=>rfl,fun g=>absurd sr g⟩
   ·rw [br_true]
    rotate_left
    ·exact decide_eq_true (show (lnAt (houseAt x n).2.2.2.2.2.2.1 i).2.2.2.2.2.2.1 ≥ x.2.2.2.2.2.2.2.1 by omega)
    exact ⟨fun g=>absurd g sr,fun _=>rfl⟩
  ·intro k
   show Says (Z39 K (k + 1) n ((houseAt x n).2.2.2.2.2.2.1.length:Int) x kn (houseAt x n)) _
   rw [Z39.step,br_false (decide_eq_false (by omega))]
   exact hend
 have h3:Says (Z38 K K x n 0 x kn (houseAt x n)) ((∀ j,j < (houseAt x n).2.2.2.2.2.1.length→(akAt (houseAt x n).2.2.2.2.2.1 j).2.2.2.2.2.2.2.1 < x.2.2.2.2.2.2.2.1)∧(∀ j,j < (houseAt x n).2.2.2.2.2.2.1.length→(lnAt (houseAt x n).2.2.2.2.2.2.1 j).2.2.2.2.2.2.1 < x.2.2.2.2.2.2.2.1)∧EndP kn n (houseAt x n) bs):=by
  refine says_loop0 (L:=fun k v=>Z38 K k x n v x kn (houseAt x n)) hK (n:=(houseAt x n).2.2.2.2.2.1.length) (by omega) ?_ ?_
  ·intro k i hi
   have hlt:decide ((i:Int) < (((houseAt x n).2.2.2.2.2.1.length:Nat):Int)) = true:=decide_eq_true (by omega)
   have hin:(decide (0≤(i:Int)) && decide ((i:Int) < (((houseAt x n).2.2.2.2.2.1.length:Nat):Int))) = true:=in_true (by omega) (by omega)
   show (_→Z38 K (k + 1) x n (i:Int) x kn (houseAt x n) = _)∧(_→Z38 K (k + 1) x n (i:Int) x kn (houseAt x n) = _)
   rw [Z38.step,br_true hlt,br_true hin,show (i:Int).toNat = i by omega,wrap_id (k:=(i:Int) + 1) (by omega) (by omega)]
   by_cases sr:(akAt (houseAt x n).2.2.2.2.2.1 i).2.2.2.2.2.2.2.1 < x.2.2.2.2.2.2.2.1
   ·rw [br_false]
    rotate_left
    ·exact decide_eq_false (fun e=>absurd (show (akAt (houseAt x n).2.2.2.2.2.1 i).2.2.2.2.2.2.2.1 ≥ x.2.2.2.2.2.2.2.1 from e) (by omega))
    exact ⟨fun _=>rfl,fun g=>absurd sr g⟩
   ·rw [br_true]
    rotate_left
    ·exact decide_eq_true (show (akAt (houseAt x n).2.2.2.2.2.1 i).2.2.2.2.2.2.2.1 ≥ x.2.2.2.2.2.2.2.1 by omega)
    exact ⟨fun g=>absurd g sr,fun _=>rfl⟩
  ·intro k
   show Says (Z38 K (k + 1) x n ((houseAt x n).2.2.2.2.2.1.length:Int) x kn (houseAt x n)) _
   have hlt:decide ((((houseAt x n).2.2.2.2.2.1.length:Nat):Int) < (((houseAt x n).2.2.2.2.2.1.length:Nat):Int)) = false:=decide_eq_false (by omega)
   rw [Z38.step,br_false hlt]
   exact h9
 exact h3.imp ⟨fun g=>⟨⟨g.1,g.2.1⟩,g.2.2⟩,fun g=>⟨g.1.1,g.1.2,g.2⟩⟩
/-- What holds of house n. -/
def HouP (K:Nat) (x:Z2) (kn:Z18) (n:Int) (bs:Bool):Prop:=Zi K (houseAt x n) = some true∧(SerP x (houseAt x n)∧EndP kn n (houseAt x n) bs)∧HeldP x n (houseAt x n)
theorem house_s {K:Nat} (hK:maxLen + 2≤K) (x:Z2) (hx:WS x) (hp:SocksP x.2.2.1) (n:Int) (hn:n = 0∨n = 1) (hlen:x.2.2.2.1.length = 2) (hs:HS (houseAt x n)) (kn:Z18) (r:PC) (hr:Z5e K kn.2.1 = some r) (bs:Bool) (hb:Z60 K (houseAt x n).2.2.2.1 r.1 = some bs):Says (Z4h K x n kn) (HouP K x kn n bs):=by
 have hin:(decide ((0:Int)≤n) && decide (n < ((x.2.2.2.1.length:Nat):Int))) = true:=by simp; omega
 obtain ⟨b,b1,b2,b3⟩:=house hK (houseAt x n) hs
 have h7:=loop7 hK x hx hp n hn (houseAt x n) hs
 rw [Z4h.eq,hin,br_t,b1,Option.bind_some,Ze4.eq,hr,Option.bind_some,Option.bind_some,hb,Option.bind_some]
 unfold HouP
 rw [b1]
 cases b with
 | false=>exact Says.f (fun g=>by cases g.1)
 | true =>
  have hl:=b3 rfl
  rw [br_false (c:=!true) rfl]
  have conv:(SerP x (houseAt x n)∧HeldP x n (houseAt x n))↔InP x n (houseAt x n):=by
   rw [← same_held (K:=K) x hp n hn (houseAt x n) hl]
   constructor
   ·rintro ⟨⟨a,b⟩,c,d,e⟩
    exact ⟨fun j hj=>⟨c j hj,a j hj⟩,fun j hj=>⟨d j hj,b j hj⟩,e,trivial⟩
   ·rintro ⟨a,b,c,_⟩
    exact ⟨⟨fun j hj=>(a j hj).2,fun j hj=>(b j hj).2⟩,fun j hj=>(a j hj).1,fun j hj=>(b j hj).1,c⟩
  have fin:∀ o:Option Bool,Says o (EndP kn n (houseAt x n) bs∧InP x n (houseAt x n))→Says o (some true = some true∧(SerP x (houseAt x n)∧EndP kn n (houseAt x n) bs)∧HeldP x n (houseAt x n)):=fun o h=>h.imp ⟨fun g=>⟨rfl,⟨(conv.2 g.2).1,g.1⟩,(conv.2 g.2).2⟩,fun g=>⟨g.2.1.2,conv.1 ⟨g.2.1.1,g.2.2⟩⟩⟩
  refine fin _ ?_
  unfold EndP
  have h3:∀ o:Option Bool,o = Z1q K K n 0 x (houseAt x n)→(houseAt x n).1≠2→Says (br (((houseAt x n).1:Int) == 3) (br (decide (((houseAt x n).2.1:Int) > kn.2.2.2.2.1)) (some false) o) o) ((((houseAt x n).1 = 2→(houseAt x n).2.1 = kn.2.2.2.2.1∧(houseAt x n).2.2.1 = kn.1∧kn.2.2.2.2.2.1 = n∧bs = true)∧((houseAt x n).1 = 3→(houseAt x n).2.1≤kn.2.2.2.2.1))∧InP x n (houseAt x n)):=by
   rintro o rfl hne
   by_cases s3:(houseAt x n).1 = 3
   ·rw [br_true (beq_true s3)]
    by_cases g:(houseAt x n).2.1 > kn.2.2.2.2.1
    ·rw [br_true (decide_eq_true g)]
     exact Says.f (fun e=>by have:=e.1.2 s3; omega)
    ·rw [br_false (decide_eq_false g)]
     exact h7.imp ⟨fun e=>⟨⟨fun f=>absurd f hne,fun _=>by omega⟩,e⟩,fun e=>e.2⟩
   ·rw [br_false (beq_false s3)]
    exact h7.imp ⟨fun e=>⟨⟨fun f=>absurd f hne,fun f=>absurd f s3⟩,e⟩,fun e=>e.2⟩
  by_cases s2:(houseAt x n).1 = 2
  ·rw [br_true (beq_true s2)]
   by_cases a1:(houseAt x n).2.1 = kn.2.2.2.2.1
   ·rw [br_false (bne_false a1)]
    by_cases a2:kn.2.2.2.2.2.1 = n
    ·rw [br_false (bne_false a2)]
     by_cases a3:(houseAt x n).2.2.1 = kn.1
     ·rw [br_false (bne_false a3)]
      cases bs with
      | false=>exact Says.f (fun e=>by have:=(e.1.1 s2).2.2.2; cases this)
      | true =>
       rw [br_false (c:=!true) rfl,br_false (c:=((houseAt x n).1:Int) == 3) (beq_false (by omega))]
       exact h7.imp ⟨fun e=>⟨⟨fun _=>⟨a1,a3,a2,rfl⟩,fun f=>by omega⟩,e⟩,fun e=>e.2⟩
     ·rw [br_true (bne_true a3)]
      exact Says.f (fun e=>a3 (e.1.1 s2).2.1)
    ·rw [br_true (bne_true a2)]
     exact Says.f (fun e=>a2 (e.1.1 s2).2.2.1)
   ·rw [br_true (bne_true a1)]
    exact Says.f (fun e=>a1 (e.1.1 s2).1)
  ·rw [br_false (beq_false s2)]
   exact h3 _ rfl s2
end F5
/- The world, whole: both say the same. -/
namespace F5
set_option linter.unusedSimpArgs false
open Go Go.Fil Go.Proofs Go.Fil.Cf
set_option maxRecDepth 100000
set_option linter.unusedVariables false
theorem Says.andd {o o':Option Bool} {P Q:Prop} (h:Says o P) (h':Says o' Q):Says (o.bind fun y=>Fil.br y (o'.bind fun z=>some z) (some false)) (P∧Q):=by
 obtain ⟨b,rfl,e⟩:=h
 obtain ⟨c,rfl,e'⟩:=h'
 cases b
 ·exact Says.f (fun g=>by cases e.2 g.1)
 ·exact ⟨c,rfl,e'.trans ⟨fun g=>⟨e.1 rfl,g⟩,fun g=>g.2⟩⟩
abbrev noteAt (l:List Zu) (j:Nat):Zu:=List.getD l j Zd.zero
def IdsP (x:Z2):Prop:=∀ i,i < x.2.2.1.length→(sockAt x.2.2.1 i).1 < x.2.2.2.2.2.2.1
def NotesP (K:Nat) (x:Z2):Prop:=∀ i,i < x.2.2.2.2.2.1.length→Z8t K (noteAt x.2.2.2.2.2.1 i) = some true
theorem spec12 {K:Nat} (hK:maxLen + 2≤K) (x:Z2) (hx:WS x) (j:Z23) {P Q:Prop} (h0:Says (Z4h K x 0 j.1) P) (h1:Says (Z4h K x 1 j.1) Q):Says (Z2x K K 0 x j) (NotesP K x∧P∧Q):=by
 have hln:=hx.ln
 refine says_loop0 (L:=fun k v=>Z2x K k v x j) hK (n:=x.2.2.2.2.2.1.length) (by omega) ?_ ?_
 ·intro k i hi
  obtain ⟨e,b,b1⟩:=note_eq K (noteAt x.2.2.2.2.2.1 i)
  show (_→Z2x K (k + 1) (i:Int) x j = _)∧(_→Z2x K (k + 1) (i:Int) x j = _)
  rw [Z2x.step,br_true (decide_eq_true (by omega)),br_true (in_true (by omega) (by omega)),show (i:Int).toNat = i by omega,e,b1,Option.bind_some,wrap_id (k:=(i:Int) + 1) (by omega) (by omega)]
  cases b
  ·exact ⟨fun g=>(by cases g),fun _=>rfl⟩
  ·exact ⟨fun _=>rfl,fun g=>absurd rfl g⟩
 ·intro k
  show Says (Z2x K (k + 1) (x.2.2.2.2.2.1.length:Int) x j) _
  rw [Z2x.step,br_false (decide_eq_false (by omega))]
  exact h0.andd h1
theorem spec7 {K:Nat} (hK:maxLen + 2≤K) (x:Z2) (hx:WS x) (j:Z23) {P Q:Prop} (h0:Says (Z4h K x 0 j.1) P) (h1:Says (Z4h K x 1 j.1) Q):Says (Z1r K K 0 x j) (IdsP x∧NotesP K x∧P∧Q):=by
 have hls:=hx.ls
 refine says_loop0 (L:=fun k v=>Z1r K k v x j) hK (n:=x.2.2.1.length) (by omega) ?_ ?_
 ·intro k i hi
  show (_→Z1r K (k + 1) (i:Int) x j = _)∧(_→Z1r K (k + 1) (i:Int) x j = _)
  rw [Z1r.step,br_true (decide_eq_true (by omega)),br_true (in_true (by omega) (by omega)),show (i:Int).toNat = i by omega,wrap_id (k:=(i:Int) + 1) (by omega) (by omega)]
  by_cases g:(sockAt x.2.2.1 i).1 < x.2.2.2.2.2.2.1
  ·rw [br_false]
   rotate_left
   ·exact decide_eq_false (fun e=>absurd (show (sockAt x.2.2.1 i).1 ≥ x.2.2.2.2.2.2.1 from e) (by omega))
   exact ⟨fun _=>rfl,fun h=>absurd g h⟩
  ·rw [br_true]
   rotate_left
   ·exact decide_eq_true (show (sockAt x.2.2.1 i).1 ≥ x.2.2.2.2.2.2.1 by omega)
   exact ⟨fun h=>absurd h g,fun _=>rfl⟩
 ·intro k
  show Says (Z1r K (k + 1) (x.2.2.1.length:Int) x j) _
  rw [Z1r.step,br_false (decide_eq_false (by omega))]
  exact spec12 hK x hx j h0 h1
def HouQ (K:Nat) (x:Z2) (kn:Z18) (bs:Nat→Bool) (i:Nat):Prop:=Zi K (houseAt x (i:Int)) = some true∧(x.2.1.2.2.2.1 = true→(houseAt x (i:Int)).1 = 0)∧(SerP x (houseAt x (i:Int))∧EndP kn (i:Int) (houseAt x (i:Int)) (bs i))∧HeldP x (i:Int) (houseAt x (i:Int))
theorem impl17 {K:Nat} (hK:maxLen + 2≤K) (x:Z2) (hx:WS x) (hp:SocksP x.2.2.1) (hlen:x.2.2.2.1.length = 2) (j:Z23) (r:PC) (hr:Z2t K j.1.2.1 = some r) (bs:Nat→Bool) (hb:∀ i:Nat,Z2m K (houseAt x (i:Int)).2.2.2.1 r.1 = some (bs i)):Says (Z1y K K 0 x j) ((∀ i,i < 2→HouQ K x j.1 bs i)∧(x.2.1.2.2.2.1 = true→x.2.2.1.length = 0∧x.2.2.2.2.1.length = 0)):=by
 refine says_loop0 (L:=fun k v=>Z1y K k v x j) hK (n:=2) (by omega) (P:=HouQ K x j.1 bs) ?_ ?_
 ·intro k i hi
  have hn:(i:Int) = 0∨(i:Int) = 1:=by omega
  have hmem:houseAt x (i:Int)∈x.2.2.2.1:=by
   rw [houseAt,show (i:Int).toNat = i by omega,List.getD_eq_getElem?_getD,List.getElem?_eq_getElem (by omega)]
   exact List.getElem_mem _
  have hs:=hx.hs _ hmem
  obtain ⟨bh,h1,h2,h3⟩:=house hK (houseAt x (i:Int)) hs
  obtain ⟨bo,o1,o2⟩:=owned_i hK x (i:Int) hn hlen hs j.1 r hr (bs i) (hb i)
  obtain ⟨be,e1,e2⟩:=held hK x hx hp (i:Int) hn hlen hs
  show (_→Z1y K (k + 1) (i:Int) x j = _)∧(_→Z1y K (k + 1) (i:Int) x j = _)
  have hin:(decide (0≤(i:Int)) && decide ((i:Int) < ((x.2.2.2.1.length:Nat):Int))) = true:=in_true (by omega) (by omega)
  rw [Z1y.step,br_true (decide_eq_true (by omega)),br_true hin,wrap_id (k:=(i:Int) + 1) (by omega) (by omega),h2,Option.bind_some,o1,e1]
  simp only [Option.bind_some]
  unfold HouQ
  rw [h1,← o2,← e2]
  cases bh
  ·exact ⟨fun g=>(by cases g.1),fun _=>rfl⟩
  ·rw [br_false (c:=!true) rfl]
   cases hdn:x.2.1.2.2.2.1
   ·rw [br_f]
    cases bo
    ·exact ⟨fun g=>(by cases g.2.2.1),fun _=>rfl⟩
    ·cases be
     ·exact ⟨fun g=>(by cases g.2.2.2),fun _=>rfl⟩
     ·exact ⟨fun _=>rfl,fun g=>absurd ⟨rfl,fun h=>(by cases h),rfl,rfl⟩ g⟩
   ·rw [br_t]
    by_cases s0:(houseAt x (i:Int)).1 = 0
    ·rw [br_false (bne_false s0)]
     cases bo
     ·exact ⟨fun g=>(by cases g.2.2.1),fun _=>rfl⟩
     ·cases be
      ·exact ⟨fun g=>(by cases g.2.2.2),fun _=>rfl⟩
      ·exact ⟨fun _=>rfl,fun g=>absurd ⟨rfl,fun _=>s0,rfl,rfl⟩ g⟩
    ·rw [br_true (bne_true s0)]
     exact ⟨fun g=>absurd (g.2.1 rfl) s0,fun _=>rfl⟩
 ·intro k
  show Says (Z1y K (k + 1) ((2:Nat):Int) x j) _
  rw [Z1y.step,br_false (decide_eq_false (by omega))]
  cases hdn:x.2.1.2.2.2.1
  ·exact Says.t (fun h=>by cases h)
  ·rw [br_false (c:=!true) rfl]
   by_cases s0:x.2.2.1.length = 0
   ·rw [br_true (beq_true (by omega))]
    refine ⟨_,rfl,?_⟩
    rw [beq_iff_eq]
    exact ⟨fun e _=>⟨s0,by omega⟩,fun e=>by have:=(e rfl).2; omega⟩
   ·rw [br_false (beq_false (by omega))]
    exact Says.f (fun e=>s0 (e rfl).1)
theorem impl11 {K:Nat} (hK:maxLen + 2≤K) (x:Z2) (hx:WS x) (j:Z23) {R:Prop} (h:Says (Z1y K K 0 x j) R):Says (Z2y K K 0 x j) (NotesP K x∧R):=by
 have hln:=hx.ln
 refine says_loop0 (L:=fun k v=>Z2y K k v x j) hK (n:=x.2.2.2.2.2.1.length) (by omega) ?_ ?_
 ·intro k i hi
  obtain ⟨e,b,b1⟩:=note_eq K (noteAt x.2.2.2.2.2.1 i)
  show (_→Z2y K (k + 1) (i:Int) x j = _)∧(_→Z2y K (k + 1) (i:Int) x j = _)
  rw [Z2y.step,br_true (decide_eq_true (by omega)),br_true (in_true (by omega) (by omega)),show (i:Int).toNat = i by omega,b1,Option.bind_some,wrap_id (k:=(i:Int) + 1) (by omega) (by omega)]
  cases b
  ·exact ⟨fun g=>(by cases g),fun _=>rfl⟩
  ·exact ⟨fun _=>rfl,fun g=>absurd rfl g⟩
 ·intro k
  show Says (Z2y K (k + 1) (x.2.2.2.2.2.1.length:Int) x j) _
  rw [Z2y.step,br_false (decide_eq_false (by omega))]
  exact h
theorem impl5 {K:Nat} (hK:maxLen + 2≤K) (x:Z2) (hx:WS x) (j:Z23) {R:Prop} (h:Says (Z1y K K 0 x j) R):Says (Z3a K K x 0 x j) (IdsP x∧NotesP K x∧R):=by
 have hls:=hx.ls
 refine says_loop0 (L:=fun k v=>Z3a K k x v x j) hK (n:=x.2.2.1.length) (by omega) ?_ ?_
 ·intro k i hi
  show (_→Z3a K (k + 1) x (i:Int) x j = _)∧(_→Z3a K (k + 1) x (i:Int) x j = _)
  rw [Z3a.step,br_true (decide_eq_true (by omega)),br_true (in_true (by omega) (by omega)),show (i:Int).toNat = i by omega,wrap_id (k:=(i:Int) + 1) (by omega) (by omega)]
  by_cases g:(sockAt x.2.2.1 i).1 < x.2.2.2.2.2.2.1
  ·rw [br_false]
   rotate_left
   ·exact decide_eq_false (fun e=>absurd (show (sockAt x.2.2.1 i).1 ≥ x.2.2.2.2.2.2.1 from e) (by omega))
   exact ⟨fun _=>rfl,fun h=>absurd g h⟩
  ·rw [br_true]
   rotate_left
   ·exact decide_eq_true (show (sockAt x.2.2.1 i).1 ≥ x.2.2.2.2.2.2.1 by omega)
   exact ⟨fun h=>absurd h g,fun _=>rfl⟩
 ·intro k
  show Says (Z3a K (k + 1) x (x.2.2.1.length:Int) x j) _
  rw [Z3a.step,br_false (decide_eq_false (by omega))]
  exact impl11 hK x hx j h
end F5
/- WorldOk: both programs say the same. -/
namespace F5
set_option linter.unusedSimpArgs false
open Go Go.Fil Go.Proofs Go.Fil.Cf
set_option maxRecDepth 100000
set_option linter.unusedVariables false
theorem Says.guard {c:Bool} {a:Option Bool} {p Q:Prop} (h:c = true↔p) (h1:¬ p→Says a Q):Says (Fil.br c (some false) a) (¬ p∧Q):=by
 cases c
 ·have np:¬ p:=fun hp=>by cases h.2 hp
  exact (h1 np).imp ⟨fun q=>⟨np,q⟩,fun q=>q.2⟩
 ·exact Says.f (fun g=>g.1 (h.1 rfl))
theorem conf_len {x:Z2} (hx:WS x) (n:Int):(houseAt x n).2.2.2.1.length≤1048576:=by
 by_cases h:n.toNat < x.2.2.2.1.length
 ·have hm:houseAt x n∈x.2.2.2.1:=by
   rw [houseAt,List.getD_eq_getElem?_getD,List.getElem?_eq_getElem h]
   exact List.getElem_mem h
  exact (hx.hs _ hm).lc
 ·have e:houseAt x n = Z0.zero:=by
   rw [houseAt,List.getD_eq_getElem?_getD,List.getElem?_eq_none (by omega)]
   rfl
  rw [e]
  exact Nat.zero_le _
def Down (x:Z2):Prop:=x.2.1.2.2.2.1 = true→(houseAt x 0).1 = 0∧(houseAt x 1).1 = 0∧x.2.2.1.length = 0∧x.2.2.2.2.1.length = 0
end F5
