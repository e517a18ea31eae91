/-  Plain lemmas on loops with a counter, and on lists by index. -/
import Derived.Test.YtgcelhejmpcchaaWWords
import Derived.Test.YtgcelhejmpcchaaWMore
namespace Go.Proofs.Ytgcelhejmpcchaa.Lp
open Go.RowKit Go.Proofs.YtgcelhejmpcchaaW.PrintWords
set_option linter.unusedVariables false

theorem wrap_id {x : Int} (h0 : -9223372036854775808 ≤ x) (h1 : x ≤ 9223372036854775807) : wrap64 x = x := by
  unfold wrap64; omega
theorem wrap_nat {i : Nat} {n : Nat} (h : i < n) (hn : n ≤ 9223372036854775807) : wrap64 ((i : Int) + 1) = ((i + 1 : Nat) : Int) := by
  rw [wrap_id (by omega) (by omega)]; omega
theorem wf_bound {x : Int} (h : (Lit.int .i64 x).wf = true) : -9223372036854775808 ≤ x ∧ x ≤ 9223372036854775807 := by
  have e1 : IntKind.i64.min = -9223372036854775808 := by decide
  have e2 : IntKind.i64.max = 9223372036854775807 := by decide
  simp [Lit.wf] at h
  omega
/-- A loop with a counter that goes up to n. -/
theorem idx_loop {σ ρ : Type} (l : Nat → σ → Int → Option ρ) (n K0 : Nat) (Inv : Nat → σ → Prop) (Post : ρ → Prop)
    (hstep : ∀ k i s, K0 ≤ k → i < n → Inv i s → (∃ s', Inv (i + 1) s' ∧ l (k + 1) s (i : Int) = l k s' ((i + 1 : Nat) : Int)) ∨ (∃ r, l (k + 1) s (i : Int) = some r ∧ Post r))
    (hend : ∀ k s, K0 ≤ k → Inv n s → ∃ r, l (k + 1) s (n : Int) = some r ∧ Post r) :
    ∀ (d i : Nat) (s : σ) (k : Nat), n - i = d → i ≤ n → Inv i s → K0 + d < k → ∃ r, l k s (i : Int) = some r ∧ Post r := by
  intro d
  induction d with
  | zero =>
    intro i s k hd hi hI hk
    obtain rfl : i = n := by omega
    obtain ⟨k, rfl⟩ : ∃ m, k = m + 1 := ⟨k - 1, by omega⟩
    exact hend k s (by omega) hI
  | succ d ih =>
    intro i s k hd hi hI hk
    obtain ⟨k, rfl⟩ : ∃ m, k = m + 1 := ⟨k - 1, by omega⟩
    rcases hstep k i s (by omega) (by omega) hI with ⟨s', hI', e⟩ | h
    · rw [e]
      exact ih (i + 1) s' k (by omega) (by omega) hI' (by omega)
    · exact h
/-- Such a loop that computes a fold. -/
theorem idx_fold {σ ρ : Type} (l : Nat → σ → Int → Option ρ) (n K0 : Nat) (f : Nat → σ → σ) (g : σ → ρ) (Inv : Nat → σ → Prop)
    (hstep : ∀ k i s, K0 ≤ k → i < n → Inv i s → Inv (i + 1) (f i s) ∧ l (k + 1) s (i : Int) = l k (f i s) ((i + 1 : Nat) : Int))
    (hend : ∀ k s, K0 ≤ k → Inv n s → l (k + 1) s (n : Int) = some (g s)) (s : σ) (hI : Inv 0 s) (k : Nat) (hk : K0 + n < k) :
    l k s 0 = some (g ((List.range n).foldl (fun s i => f i s) s)) := by
  have key : ∀ (d i : Nat) (s : σ) (k : Nat), n - i = d → i ≤ n → Inv i s → K0 + d < k → l k s (i : Int) = some (g ((List.range' i (n - i)).foldl (fun s i => f i s) s)) := by
    intro d
    induction d with
    | zero =>
      intro i s k hd hi hI hk
      obtain rfl : i = n := by omega
      obtain ⟨k, rfl⟩ : ∃ m, k = m + 1 := ⟨k - 1, by omega⟩
      simpa using hend k s (by omega) hI
    | succ d ih =>
      intro i s k hd hi hI hk
      obtain ⟨k, rfl⟩ : ∃ m, k = m + 1 := ⟨k - 1, by omega⟩
      obtain ⟨hI', e⟩ := hstep k i s (by omega) (by omega) hI
      rw [e, ih (i + 1) _ k (by omega) (by omega) hI' (by omega)]
      have : n - i = (n - (i + 1)) + 1 := by omega
      rw [this, List.range'_succ, List.foldl_cons]
  have := key n 0 s k (by omega) (by omega) hI hk
  simpa [List.range_eq_range'] using this
theorem getD_eq {α : Type} (l : List α) (z : α) (i : Nat) (h : i < l.length) : l.getD (i : Int).toNat z = l[i] := by
  simp [List.getD, h]
theorem take_succ' {α : Type} (l : List α) (i : Nat) (h : i < l.length) : l.take (i + 1) = l.take i ++ [l[i]] := by
  rw [List.take_succ_eq_append_getElem h]
theorem set_mid {α : Type} (xs : List α) (z y : α) (m i : Nat) (h : xs.length = i) : (xs ++ List.replicate (m + 1) z).set i y = xs ++ [y] ++ List.replicate m z := by
  subst h
  rw [List.set_append_right _ _ (Nat.le_refl _), Nat.sub_self, List.replicate_succ, List.set_cons_zero]
  simp
/-- A loop that fills a new row by index, element by element. -/
theorem fill_loop {α β : Type} (l : Nat → List β → Int → Option (List β)) (xs : List α) (z : β) (f : α → β) (K0 : Nat)
    (hstep : ∀ k i s (hi : i < xs.length), K0 ≤ k → s.length = xs.length → l (k + 1) s (i : Int) = l k (s.set i (f xs[i])) ((i + 1 : Nat) : Int))
    (hend : ∀ k s, K0 ≤ k → l (k + 1) s (xs.length : Int) = some s) (k : Nat) (hk : K0 + xs.length < k) :
    l k (List.replicate xs.length z) 0 = some (xs.map f) := by
  obtain ⟨r, h, e⟩ := idx_loop l xs.length K0 (fun i s => s = (xs.take i).map f ++ List.replicate (xs.length - i) z) (fun r => r = xs.map f)
    (fun k i s hk hi hs => .inl ⟨s.set i (f (xs[i]'hi)), by
      subst hs
      have e1 : xs.length - i = (xs.length - (i + 1)) + 1 := by omega
      rw [e1]
      have := set_mid ((xs.take i).map f) z (f (xs[i]'hi)) (xs.length - (i + 1)) i (by simp; omega)
      exact this.trans (by rw [take_succ' _ _ hi, List.map_append]; rfl), by
      subst hs
      exact hstep k i _ hi hk (by simp only [List.length_append, List.length_map, List.length_take, List.length_replicate]; omega)⟩)
    (fun k s hk hs => ⟨_, hend k s hk, by subst hs; simp⟩) xs.length 0 (List.replicate xs.length z) k (by omega) (by omega) (by simp) hk
  rw [← e]; exact h
/-- A loop that holds two rows of one length against each other. -/
theorem eq_loop {α : Type} [DecidableEq α] (l : Nat → Int → Option Bool) (xs ys : List α) (K0 : Nat) (hl : xs.length = ys.length)
    (hstep : ∀ k i (hi : i < xs.length) (hj : i < ys.length), K0 ≤ k → l (k + 1) (i : Int) = if xs[i] = ys[i] then l k ((i + 1 : Nat) : Int) else some false)
    (hend : ∀ k, K0 ≤ k → l (k + 1) (xs.length : Int) = some true) (k : Nat) (hk : K0 + xs.length < k) :
    l k 0 = some (decide (xs = ys)) := by
  obtain ⟨r, h, e⟩ := idx_loop (fun k (_ : Unit) i => l k i) xs.length K0 (fun i _ => xs.take i = ys.take i) (fun r => r = decide (xs = ys))
    (fun k i s hk hi hs => by
      have hj : i < ys.length := by omega
      have e := hstep k i hi hj hk
      by_cases h : xs[i] = ys[i]
      · refine .inl ⟨(), by rw [take_succ' _ _ hi, take_succ' _ _ hj, hs, h], by show l _ _ = l _ _; rw [e, if_pos h]⟩
      · refine .inr ⟨false, by show l _ _ = _; rw [e, if_neg h], ?_⟩
        have : xs ≠ ys := by rintro rfl; exact h rfl
        simp [this])
    (fun k s hk hs => ⟨true, hend k hk, by rw [List.take_of_length_le (Nat.le_refl _), List.take_of_length_le (by omega)] at hs; simp [hs]⟩)
    xs.length 0 () k (by omega) (by omega) rfl hk
  rw [← e]; exact h
theorem size_toList (s : ByteArray) : s.toList = s.data.toList := by
  have key : ∀ (n i : Nat) (r : List UInt8), s.size - i = n → ByteArray.toList.loop s i r = r.reverse ++ s.data.toList.drop i := by
    intro n
    induction n with
    | zero =>
      intro i r h
      unfold ByteArray.toList.loop
      have hs : s.data.toList.length = s.size := by rw [Array.length_toList]; rfl
      rw [if_neg (by omega), List.drop_of_length_le (by omega)]
      simp
    | succ n ih =>
      intro i r h
      unfold ByteArray.toList.loop
      have hs : s.data.toList.length = s.size := by rw [Array.length_toList]; rfl
      rw [if_pos (by omega), ih (i + 1) _ (by omega)]
      have hi : i < s.data.toList.length := by omega
      rw [List.drop_eq_getElem_cons hi]
      have : s.get! i = s.data.toList[i] := by
        simp only [ByteArray.get!, Array.getElem_toList]
        exact getElem!_pos s.data i (by have : s.data.size = s.size := rfl; omega)
      simp [this]
  have := key s.size 0 [] (by omega)
  simpa [ByteArray.toList] using this
theorem toList_inj {a b : ByteArray} : a.toList = b.toList ↔ a = b := by
  constructor
  · intro h
    rw [size_toList, size_toList] at h
    cases a; cases b
    simpa using h
  · rintro rfl; rfl
theorem Ev.succ {α : Type} {g : Nat → Option α} {r : α} (h : Ev (fun k => g (k + 1)) r) : Ev g r := Ev.step (fun _ => rfl) h
theorem Ev.const {α : Type} {x : Option α} {r : α} (h : x = some r) : Ev (fun _ => x) r := ⟨0, fun _ _ => h⟩
theorem Ev.eqf {α : Type} {g f : Nat → Option α} {r : α} (k : Ev f r) (h : ∀ k, g k = f k) : Ev g r := Ev.congr h k
theorem Ev.at_ {α : Type} {g : Nat → Option α} {r : α} {K : Nat} (h : ∀ k, K < k → g k = some r) : Ev g r := ⟨K + 1, fun k hk => h k (by omega)⟩
theorem Ev.bind' {α β : Type} {g : Nat → Option α} {f : Nat → α → Option β} {a : α} {r : β} (h : Ev g a) (k : Ev (fun n => f n a) r) : Ev (fun n => (g n).bind (f n)) r := Ev.bind h k
theorem Ev.seq {α β : Type} {x : Option α} {f : Nat → α → Option β} {a : α} {r : β} (h : x = some a) (k : Ev (fun n => f n a) r) : Ev (fun n => x.bind (f n)) r := by subst h; exact k
theorem Ev.ite_pos {α : Type} {c : Prop} [Decidable c] {a b : Nat → Option α} {r : α} (hc : c) (h : Ev a r) : Ev (fun k => if c then a k else b k) r := by simp only [if_pos hc]; exact h
theorem Ev.ite_neg {α : Type} {c : Prop} [Decidable c] {a b : Nat → Option α} {r : α} (hc : ¬ c) (h : Ev b r) : Ev (fun k => if c then a k else b k) r := by simp only [if_neg hc]; exact h
/-- A loop with a counter that goes up to n, by what it comes to in the end. -/
theorem ev_loop {σ ρ : Type} (l : Nat → σ → Int → Option ρ) (n : Nat) (m : Nat → σ → ρ) (Inv : Nat → σ → Prop)
    (hstep : ∀ i s, i < n → Inv i s → (∃ s', Inv (i + 1) s' ∧ m i s = m (i + 1) s' ∧ (∀ r, Ev (fun k => l k s' ((i + 1 : Nat) : Int)) r → Ev (fun k => l k s (i : Int)) r)) ∨ Ev (fun k => l k s (i : Int)) (m i s))
    (hend : ∀ s, Inv n s → Ev (fun k => l k s (n : Int)) (m n s)) :
    ∀ (d i : Nat) (s : σ), n - i = d → i ≤ n → Inv i s → Ev (fun k => l k s (i : Int)) (m i s) := by
  intro d
  induction d with
  | zero =>
    intro i s hd hi hI
    obtain rfl : i = n := by omega
    exact hend s hI
  | succ d ih =>
    intro i s hd hi hI
    rcases hstep i s (by omega) hI with ⟨s', hI', e, h⟩ | h
    · rw [e]; exact h _ (ih (i + 1) s' (by omega) (by omega) hI')
    · exact h
theorem Ev.ite {α : Type} {c : Prop} [Decidable c] {a b : Nat → Option α} {r : α} (h : c → Ev a r) (h' : ¬ c → Ev b r) : Ev (fun k => if c then a k else b k) r := by
  by_cases hc : c
  · exact Ev.ite_pos hc (h hc)
  · exact Ev.ite_neg hc (h' hc)
theorem Ev.cast {α : Type} {g : Nat → Option α} {r r' : α} (h : Ev g r) (e : r = r') : Ev g r' := e ▸ h
theorem Ev.now' {α : Type} {r r' : α} (e : r = r') : Ev (fun _ => some r) r' := e ▸ Ev.now r
/-- It comes to something with P. -/
def EvP {α : Type} (g : Nat → Option α) (P : α → Prop) : Prop := ∃ r, P r ∧ Ev g r
theorem EvP.of {α : Type} {g : Nat → Option α} {P : α → Prop} {r : α} (h : Ev g r) (hp : P r) : EvP g P := ⟨r, hp, h⟩
theorem EvP.now {α : Type} {P : α → Prop} {r : α} (hp : P r) : EvP (fun _ => some r) P := ⟨r, hp, Ev.now r⟩
theorem EvP.succ {α : Type} {g : Nat → Option α} {P : α → Prop} (h : EvP (fun k => g (k + 1)) P) : EvP g P := by
  obtain ⟨r, hp, h⟩ := h
  exact ⟨r, hp, Ev.succ h⟩
theorem EvP.ite_pos {α : Type} {c : Prop} [Decidable c] {a b : Nat → Option α} {P : α → Prop} (hc : c) (h : EvP a P) : EvP (fun k => if c then a k else b k) P := by simp only [if_pos hc]; exact h
theorem EvP.ite_neg {α : Type} {c : Prop} [Decidable c] {a b : Nat → Option α} {P : α → Prop} (hc : ¬ c) (h : EvP b P) : EvP (fun k => if c then a k else b k) P := by simp only [if_neg hc]; exact h
theorem EvP.ite {α : Type} {c : Prop} [Decidable c] {a b : Nat → Option α} {P : α → Prop} (h : c → EvP a P) (h' : ¬ c → EvP b P) : EvP (fun k => if c then a k else b k) P := by
  by_cases hc : c
  · exact EvP.ite_pos hc (h hc)
  · exact EvP.ite_neg hc (h' hc)
theorem EvP.bind {α β : Type} {g : Nat → Option α} {f : Nat → α → Option β} {a : α} {P : β → Prop} (h : Ev g a) (k : EvP (fun n => f n a) P) : EvP (fun n => (g n).bind (f n)) P := by
  obtain ⟨r, hp, k⟩ := k
  exact ⟨r, hp, Ev.bind h k⟩
theorem EvP.bindP {α β : Type} {g : Nat → Option α} {f : Nat → α → Option β} {Q : α → Prop} {P : β → Prop} (h : EvP g Q) (k : ∀ a, Q a → EvP (fun n => f n a) P) : EvP (fun n => (g n).bind (f n)) P := by
  obtain ⟨a, hq, h⟩ := h
  exact EvP.bind h (k a hq)
theorem EvP.mono {α : Type} {g : Nat → Option α} {P Q : α → Prop} (h : EvP g P) (hq : ∀ r, P r → Q r) : EvP g Q := by
  obtain ⟨r, hp, h⟩ := h
  exact ⟨r, hq r hp, h⟩
/-- A loop over the elements of a list, by what it comes to. -/
theorem ev_list {α σ ρ : Type} (rdf : Int → α) (l : Nat → σ → Int → Option ρ) (xs : List α) (m : List α → σ → ρ) (Inv : Nat → σ → Prop)
    (hrd : ∀ (i : Nat) (h : i < xs.length), rdf (i : Int) = xs[i]) (hn : xs.length ≤ 9223372036854775806)
    (hstep : ∀ (i : Nat) (n : α) (rest : List α) (s : σ), i < xs.length → ((i : Int) < (xs.length : Int)) = True → ((0 : Int) ≤ (i : Int)) = True → rdf (i : Int) = n → wrap64 ((i : Int) + 1) = ((i + 1 : Nat) : Int) → Inv i s →
      (∀ s', Inv (i + 1) s' → Ev (fun k => l k s' ((i + 1 : Nat) : Int)) (m rest s')) → Ev (fun k => l k s (i : Int)) (m (n :: rest) s))
    (hend : ∀ s, Inv xs.length s → Ev (fun k => l k s (xs.length : Int)) (m [] s)) (s : σ) (hI : Inv 0 s) : Ev (fun k => l k s 0) (m xs s) := by
  have key : ∀ (d i : Nat) (s : σ), xs.length - i = d → i ≤ xs.length → Inv i s → Ev (fun k => l k s (i : Int)) (m (xs.drop i) s) := by
    intro d
    induction d with
    | zero =>
      intro i s hd hi hI
      obtain rfl : i = xs.length := by omega
      simpa using hend s hI
    | succ d ih =>
      intro i s hd hi hI
      have hlt : i < xs.length := by omega
      rw [List.drop_eq_getElem_cons hlt]
      exact hstep i _ _ s hlt (eq_true (by omega)) (eq_true (by omega)) (hrd i hlt) (wrap_nat hlt (by omega)) hI (fun s' hI' => ih (i + 1) s' (by omega) (by omega) hI')
  exact key xs.length 0 s (by omega) (by omega) hI
theorem drop_cons {α : Type} (xs : List α) (i : Nat) (h : i < xs.length) : xs.drop i = xs[i] :: xs.drop (i + 1) := List.drop_eq_getElem_cons h
theorem drop_end {α : Type} (xs : List α) : xs.drop xs.length = [] := by simp
end Go.Proofs.Ytgcelhejmpcchaa.Lp
