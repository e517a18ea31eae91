/- A law's body in pieces: each is evaluated; between them what the temps hold is told anew. -/
import Derived.Test.YtocpjnhpjclllaaGreatDoorFil12
set_option linter.unusedSimpArgs false
namespace Go.Fil
open Go.RowKit
set_option linter.unusedVariables false
def castX {t t' : Ty} (h : t' = t) (r : Option (Int × List t'.T)) : Option (Int × List t.T) := h ▸ r
def Xof {P : Program} : List (XEnt P) → FuncId → Nat → (t : Ty) → List t.T → Int → Option (Int × List t.T)
  | [], _, _, _, _, _ => none
  | x :: l, f, e, t, xs, k => if h : (f = x.f ∧ e = x.e) ∧ t = x.t then castX h.2.symm (x.g (h.2 ▸ xs) k) else Xof l f e t xs k
theorem Xof_ok {P : Program} : ∀ (l : List (XEnt P)) (f : FuncId) (e : Nat) (t : Ty) (xs : List t.T) (k : Int) (r : Int × List t.T), Xof l f e t xs k = some r → XOk P f e t xs k r.1 r.2
  | [], _, _, _, _, _, _, h => by simp [Xof] at h
  | x :: l, f, e, t, xs, k, r, h => by
    simp only [Xof] at h
    split at h
    · rename_i hc
      obtain ⟨⟨rfl, rfl⟩, ht⟩ := hc
      subst ht
      exact x.ok _ _ _ _ h
    · exact Xof_ok l f e t xs k r h
def envX (G : Prg) (cs : List (Ent G.P)) (ls : List (LEnt G.P)) (xs : List (XEnt G.P)) (k : Nat) (fT fS : Nat → List Nat) : Env := ⟨tabOf G.tab, Cof cs, k, fT, fS, Lof ls, Xof xs, fun _ _ _ => none, fun _ _ _ _ _ _ _ => none⟩
theorem envX_ok (G : Prg) (cs : List (Ent G.P)) (ls : List (LEnt G.P)) (xs : List (XEnt G.P)) (k : Nat) (fT fS : Nat → List Nat) : EnvOk G.P (envX G cs ls xs k fT fS) := ⟨(fun _ _ _ _ h => by cases h), (fun _ _ _ _ _ _ _ _ h => by cases h), Xof_ok xs, Lof_ok ls, tab_ok G.ok, Cof_ok cs⟩
def takeC : Nat → Code → Code
  | n + 1, .seq a b => .seq a (takeC n b)
  | _, _ => .skip
def dropC : Nat → Code → Code
  | n + 1, .seq _ b => dropC n b
  | _, c => c
def seqs : Nat → Code → Bool
  | 0, _ => true
  | n + 1, .seq _ b => seqs n b
  | _, _ => false
theorem piece_sound [Lin] {P : Program} {E : Env} {B : Nat} {okA : Nat → Prop} {w0 : World} {ρ : Type} {r : ρ} (he : EnvOk P E) (hm : P.follows .mixedOrders = true) : ∀ (n : Nat) (c : Code) {β : Nat → Value} {st : St} {a : Act} {w : World} {K : Ex → St → Option ρ} {Q : Exit → Act → World → Prop}, seqs n c = true → Sim B okA w0 β st a w → codeK E dokB (takeC n c) st K = some r →
    (∀ β' st' a' w', Sim B okA w0 β' st' a' w' → K .normal st' = some r → (dropC n c).wp P Q a' w') →
    (∀ ex β' st' a' w', ex ≠ .normal → Sim B okA w0 β' st' a' w' → K ex st' = some r → Q ex.out a' w') → c.wp P Q a w
  | 0, c, β, st, a, w, K, Q, _, hs, h, h1, _ => h1 _ _ _ _ hs h
  | n + 1, .seq x y, β, st, a, w, K, Q, hq, hs, h, h1, h2 => by
    simp only [takeC, codeK] at h
    refine wp_seq (code_sound he hm x hs h ?_)
    intro ex β' st' a' w' hs' h'
    cases ex with
    | normal => exact piece_sound he hm n y hq hs' h' h1 h2
    | exit id => exact h2 (.exit id) _ _ _ _ (by simp) hs' h'
    | ret => exact h2 .ret _ _ _ _ (by simp) hs' h'
  | n + 1, .skip, _, _, _, _, _, _, hq, _, _, _, _ => by simp [seqs] at hq
  | n + 1, .region .., _, _, _, _, _, _, hq, _, _, _, _ => by simp [seqs] at hq
  | n + 1, .cond .., _, _, _, _, _, _, hq, _, _, _, _ => by simp [seqs] at hq
  | n + 1, .block .., _, _, _, _, _, _, hq, _, _, _, _ => by simp [seqs] at hq
  | n + 1, .loop .., _, _, _, _, _, _, hq, _, _, _, _ => by simp [seqs] at hq
  | n + 1, .exit .., _, _, _, _, _, _, hq, _, _, _, _ => by simp [seqs] at hq
  | n + 1, .ret, _, _, _, _, _, _, hq, _, _, _, _ => by simp [seqs] at hq
  | n + 1, .label .., _, _, _, _, _, _, hq, _, _, _, _ => by simp [seqs] at hq
  | n + 1, .goto .., _, _, _, _, _, _, hq, _, _, _, _ => by simp [seqs] at hq
  | n + 1, .scope .., _, _, _, _, _, _, hq, _, _, _, _ => by simp [seqs] at hq

theorem foldl_set_len {α : Type} : ∀ (l : List (Nat × α)) (s : List α), (l.foldl (fun s p => s.set p.1 p.2) s).length = s.length
  | [], _ => rfl
  | p :: l, s => by rw [List.foldl_cons, foldl_set_len l]; simp
theorem foldl_set_get {α : Type} : ∀ (l : List (Nat × α)) (s : List α) (i : Nat) (A : α), (l.foldl (fun s p => s.set p.1 p.2) s)[i]? = some A → s[i]? = some A ∨ (i, A) ∈ l
  | [], _, _, _, h => .inl h
  | p :: l, s, i, A, h => by
    rw [List.foldl_cons] at h
    rcases foldl_set_get l _ i A h with h | h
    · rw [List.getElem?_set] at h
      split at h
      · rename_i e
        split at h
        · rename_i hlt
          have h := Option.some.inj h
          refine .inr (List.mem_cons.2 (.inl ?_))
          rw [← e, ← h]
        · cases h
      · exact .inl h
    · exact .inr (by simp [h])
theorem mkSt_len (n : Nat) (l : List (Nat × A)) (ob : List (Nat × Ob)) : (mkSt n l ob).tm.length = n := by
  show (l.foldl (fun s p => s.set p.1 p.2) (List.replicate n A.und)).length = n
  rw [foldl_set_len]; simp
theorem mkSt_tm {n : Nat} {l : List (Nat × A)} {ob : List (Nat × Ob)} {i : Nat} {a : A} (h : (mkSt n l ob).tm[i]? = some a) : a = .und ∨ (i, a) ∈ l := by
  rcases foldl_set_get l _ i a h with h | h
  · rw [List.getElem?_replicate] at h
    split at h
    · injection h with h; exact .inl h.symm
    · cases h
  · exact .inr h
theorem obj_replicate (n s : Nat) : St.obj (List.replicate n none) s = none := by
  unfold St.obj
  rw [List.getElem?_replicate]
  split <;> rfl
theorem ow_none {β : Nat → Value} {n k : Nat} : ¬ Ow β (List.replicate n none) k := by
  rintro ⟨s, o, h, _⟩
  rw [obj_replicate] at h
  cases h
/-- What the temps hold, told anew over the world as it is. -/
theorem rebase (L : Lin) {w : World} {a : Act} {n : Nat} {l : List (Nat × A)} {okA : Nat → Prop} (hok : ∀ k, okA k → k < w.heap.size) (hlen : a.tmps.size = n) (hd : a.defers = []) (hM : Mark L.M L.w0 w) (hMA : ∀ k, L.M k → ¬ okA k) (hN : ∀ k, ¬ L.N k)
    (h : ∀ p ∈ l, RepA w (okD w w.heap.size okA (fun _ => undef) (List.replicate n none)) (fun _ => undef) (List.replicate n none) p.2 (a.tmps.getD p.1 undef)) : Sim w.heap.size okA w (fun _ => undef) (mkSt n l []) a w := by
  have hob : ∀ s o, St.obj (mkSt n l []).ob s ≠ some o := fun s o h => by
    have : St.obj (List.replicate n none) s = some o := h
    rw [obj_replicate] at this; cases this
  refine { len := by rw [mkSt_len]; exact hlen, tm := ?_, ob := fun s o h => absurd h (hob s o), apart := fun s s' o o' k h => absurd h (hob s o), below := BelowM.refl _ _ _, mrk := hM, lt := fun k hk => ⟨hM.lt hk, hMA k hk⟩, one := fun s e t xs h => absurd h (hob s _), ltN := fun k hk => absurd hk (hN k), size := Nat.le_refl _, arg := hok, defers := hd }
  intro i A' hA
  rcases mkSt_tm hA with rfl | hA
  · trivial
  · exact h _ hA
/-- The same, with the row that is written. -/
theorem rebaseX (L : Lin) {w : World} {a : Act} {n : Nat} {l : List (Nat × A)} {e : Nat} {t : Ty} {xs : List t.T} {okA : Nat → Prop} (hok : ∀ k, okA k → k < w.heap.size) (hlen : a.tmps.size = n + 1) (hd : a.defers = []) (hM : ∀ k, ¬ L.M k) (hN : ∀ k, L.N k → k < w.heap.size ∧ ¬ okA k)
    (hrow : RepO w w.heap.size (fun _ _ => True) undef (.row e t xs))
    (h : ∀ p ∈ l, RepA w (okD w w.heap.size okA (fun _ => undef) (some (.row e t xs) :: List.replicate n none)) (fun _ => undef) (some (.row e t xs) :: List.replicate n none) p.2 (a.tmps.getD p.1 undef)) : Sim w.heap.size okA w (fun _ => undef) (mkSt (n + 1) l [(0, .row e t xs)]) a w := by
  have hob : ∀ s o, St.obj (mkSt (n + 1) l [(0, .row e t xs)]).ob s = some o → s = 0 ∧ o = .row e t xs := by
    intro s o h
    have h : St.obj (some (.row e t xs) :: List.replicate n none) s = some o := h
    cases s with
    | zero => simp [St.obj] at h; exact ⟨rfl, h.symm⟩
    | succ s =>
      have : St.obj (List.replicate n none) s = some o := by simpa [St.obj] using h
      rw [obj_replicate] at this; cases this
  refine { len := by rw [mkSt_len]; exact hlen, tm := ?_, ob := ?_, apart := fun s s' o o' k h1 h2 _ _ => by rw [(hob _ _ h1).1, (hob _ _ h2).1], below := BelowM.refl _ _ _, mrk := fun k hk => absurd hk (hM k), lt := fun k hk => absurd hk (hM k), one := fun s e t xs h => (hob _ _ h).1, ltN := fun k hk => ⟨(hN k hk).1, (hN k hk).2, hM k⟩, size := Nat.le_refl _, arg := hok, defers := hd }
  · intro i A' hA
    rcases mkSt_tm hA with rfl | hA
    · trivial
    · exact h _ hA
  · intro s o ho
    obtain ⟨rfl, rfl⟩ := hob _ _ ho
    exact hrow
/-- The end of the body: a bool. -/
theorem end_bool [Lin] {P : Program} {E : Env} (he : EnvOk P E) {B : Nat} {okA : Nat → Prop} {w0 w w' : World} {β : Nat → Value} {st : St} {a : Act} {fn : Func} {ex : Ex} {b : Bool} (hs : Sim B okA w0 β st a w') (h : endK E true .bool true fn ex st = some b) (hb : Below w.heap.size w w') :
    bodyPost P fn (fun e w' => e = .returned (.bool b) ∧ Below w.heap.size w w') ex.out a w' := by
  have hex : ∀ id, ex ≠ .exit id := fun id e => by subst e; simp [endK] at h
  have key : bodyPost P fn (fun e w' => e = .returned (.bool b) ∧ Below w.heap.size w w') .normal a w' := by
    obtain ⟨y, hy, rfl⟩ := endK_one h
    obtain ⟨us, h1, h2, h3⟩ := results_sound he _ _ _ hs hy
    cases us with
    | nil => exact h2.elim
    | cons u us =>
      cases us with
      | cons _ _ => exact h2.2.elim
      | nil =>
        have hu := bool_of_V h2.1
        exact ⟨hs.defers, u, results_run h1, by rw [hu], hb⟩
  cases ex with
  | normal => exact key
  | ret => exact key
  | exit id => exact absurd rfl (hex id)
/-- A temp of the state, as the machine has it. -/
theorem Sim.at [Lin] {B : Nat} {okA : Nat → Prop} {w0 w : World} {β : Nat → Value} {st : St} {a : Act} (hs : Sim B okA w0 β st a w) {i : Nat} {A' : A} (h : st.tm[i]? = some A') : RepA w (okD w B okA β st.ob) β st.ob A' (a.tmps.getD i undef) := hs.tm i A' h
end Go.Fil
