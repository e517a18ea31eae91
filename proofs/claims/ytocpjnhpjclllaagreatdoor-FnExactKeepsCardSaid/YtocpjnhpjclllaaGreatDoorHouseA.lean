/- The house and the world: what stands alone. -/
import Derived.Test.YtocpjnhpjclllaaGreatDoorPlainJ
import Derived.Test.YtocpjnhpjclllaaGreatDoorFunC
import Derived.Test.YtocpjnhpjclllaaGreatDoorFun5h
namespace F5
set_option linter.unusedSimpArgs false
open Go Go.Fil Go.Proofs Go.Fil.Cf
set_option maxRecDepth 100000
set_option linter.unusedVariables false
/-- An answer, and what it says. -/
def Says (o : Option Bool) (P : Prop) : Prop := ∃ b, o = some b ∧ (b = true ↔ P)
theorem Says.f {P : Prop} (h : ¬ P) : Says (some false) P := ⟨false, rfl, no_iff h⟩
theorem Says.t {P : Prop} (h : P) : Says (some true) P := ⟨true, rfl, fun _ => h, fun _ => rfl⟩
theorem Says.d {p : Prop} [Decidable p] : Says (some (decide p)) p := ⟨_, rfl, decide_eq_true_iff⟩
theorem Says.imp {o : Option Bool} {P Q : Prop} (h : Says o P) (e : P ↔ Q) : Says o Q := by
  obtain ⟨b, h1, h2⟩ := h
  exact ⟨b, h1, h2.trans e⟩
theorem Says.br {c : Bool} {a b : Option Bool} {P : Prop} (h1 : c = true → Says a P) (h2 : c = false → Says b P) : Says (Fil.br c a b) P := by
  cases c
  · exact h2 rfl
  · exact h1 rfl
theorem Says.bind {o : Option Bool} {f : Bool → Option Bool} {P Q : Prop} (h : Says o P) (h1 : P → Says (f true) Q) (h2 : ¬ P → Says (f false) Q) : Says (o.bind f) Q := by
  obtain ⟨b, rfl, e⟩ := h
  cases b
  · exact h2 (fun hp => by cases e.2 hp)
  · exact h1 (e.1 rfl)
/-- First this, then the rest. -/
theorem Says.gate {o : Option Bool} {a : Option Bool} {P Q : Prop} (h : Says o P) (h1 : P → Says a Q) : Says (o.bind fun y => Fil.br (!y) (some false) a) (P ∧ Q) :=
  h.bind (fun hp => by
    show Says (Fil.br (!true) _ _) _
    rw [br_false (c := !true) rfl]
    exact (h1 hp).imp ⟨fun hq => ⟨hp, hq⟩, fun hq => hq.2⟩) (fun hp => by
    show Says (Fil.br (!false) _ _) _
    rw [br_true (c := !false) rfl]
    exact Says.f (fun h => hp h.1))
theorem Says.same {o o' : Option Bool} {P Q : Prop} (h : Says o P) (h' : Says o' Q) (e : P ↔ Q) : o = o' := by
  obtain ⟨b, rfl, h2⟩ := h
  obtain ⟨c, rfl, h4⟩ := h'
  rw [Bool.eq_iff_iff.2 (h2.trans (e.trans h4.symm))]
theorem says_in (K : Nat) (a b c : Int) : Says (g_spec_l1In K a b c) (b ≤ a ∧ a ≤ c) := by
  rw [l1In_eq]
  exact ⟨_, rfl, by simp⟩
theorem says_isIn (K : Nat) (a b c : Int) : Says (g_impl_isIn K a b c) (b ≤ a ∧ a ≤ c) := by
  rw [isIn_eq]
  exact ⟨_, rfl, by simp⟩
/-- A loop that asks the same of each. -/
theorem says_loop {n : Nat} (hn : n ≤ 2000000) {L : Nat → Int → Option Bool} {P : Nat → Prop} {Q : Prop}
    (step : ∀ k (i : Nat), i < n → (P i → L (k + 1) (i : Int) = L k ((i : Int) + 1)) ∧ (¬ P i → L (k + 1) (i : Int) = some false))
    (stop : ∀ k, Says (L (k + 1) (n : Int)) Q) : ∀ (q i k : Nat), i + q = n → q < k → Says (L k (i : Int)) ((∀ j, i ≤ j → j < n → P j) ∧ Q)
  | 0, i, k + 1, hi, hk => by
    obtain rfl : i = n := by omega
    exact (stop k).imp ⟨fun h => ⟨fun j h1 h2 => absurd h2 (by omega), h⟩, fun h => h.2⟩
  | q + 1, i, k + 1, hi, hk => by
    obtain ⟨s1, s2⟩ := step k i (by omega)
    by_cases hp : P i
    · rw [s1 hp]
      have := says_loop hn step stop q (i + 1) k (by omega) (by omega)
      rw [Int.natCast_add] at this
      refine this.imp ⟨fun h => ⟨fun j h1 h2 => ?_, h.2⟩, fun h => ⟨fun j h1 h2 => h.1 j (by omega) h2, h.2⟩⟩
      by_cases e : j = i
      · subst e; exact hp
      · exact h.1 j (by omega) h2
    · rw [s2 hp]
      exact Says.f (fun h => hp (h.1 i (Nat.le_refl _) (by omega)))
  | _, _, 0, _, h => absurd h (Nat.not_lt_zero _)
theorem says_loop0 {K n : Nat} (hK : maxLen + 2 ≤ K) (hn : n ≤ 2000000) {L : Nat → Int → Option Bool} {P : Nat → Prop} {Q : Prop}
    (step : ∀ k (i : Nat), i < n → (P i → L (k + 1) (i : Int) = L k ((i : Int) + 1)) ∧ (¬ P i → L (k + 1) (i : Int) = some false))
    (stop : ∀ k, Says (L (k + 1) (n : Int)) Q) : Says (L K 0) ((∀ j, j < n → P j) ∧ Q) := by
  have hm : maxLen = 2 ^ 63 - 1 := rfl
  have := says_loop hn step stop n 0 K (by omega) (by omega)
  exact this.imp ⟨fun h => ⟨fun j hj => h.1 j (by omega) hj, h.2⟩, fun h => ⟨fun j _ hj => h.1 j hj, h.2⟩⟩
/-! ### single things -/
theorem ite_t {p : Prop} [Decidable p] {a b : Bool} : ((if p then a else b) = true) ↔ (p → a = true) ∧ (¬ p → b = true) := by split <;> simp [*]
theorem not_t {a b : Prop} [Decidable a] [Decidable b] : (!(decide a && decide b)) = true ↔ ¬ (a ∧ b) := by
  by_cases ha : a <;> by_cases hb : b <;> simp [ha, hb]
theorem sockId (K : Nat) (n : Int) : g_impl_sockIdOk K n = some (decide (1 ≤ n) && decide (n ≤ 9999)) := by rw [g_impl_sockIdOk.eq, isIn_eq, Option.bind_some]
theorem since_i (K : Nat) (n : Int) : g_impl_sinceOk K n = some (decide (0 ≤ n) && decide (n ≤ 100000)) := by rw [g_impl_sinceOk.eq, isIn_eq, Option.bind_some]
theorem since_s (K : Nat) (n : Int) : g_spec_l9Time K n = some (decide (0 ≤ n) && decide (n ≤ 100000)) := by rw [g_spec_l9Time.eq, l1In_eq, Option.bind_some]
def SockP (s : S_impl_Sock) : Prop := (1 ≤ s.1 ∧ s.1 ≤ 9999) ∧ (1 ≤ s.2.1 ∧ s.2.1 ≤ 2) ∧ (1 ≤ s.2.2.1 ∧ s.2.2.1 ≤ 3) ∧ s.2.2.2.2.1.length ≤ 240 ∧ (s.2.1 = 1 → s.2.2.2.2.2.2.1 = 0 ∧ s.2.2.2.2.2.2.2.1 = 0) ∧ (s.2.1 ≠ 1 → (0 ≤ s.2.2.2.2.2.2.1 ∧ s.2.2.2.2.2.2.1 ≤ 2) ∧ 0 ≤ s.2.2.2.2.2.2.2.1 ∧ s.2.2.2.2.2.2.2.1 ≤ s.2.2.2.2.2.1.length)
theorem sockOk_s (K : Nat) (s : S_impl_Sock) : Says (g_spec_SockOk K s) (SockP s) := by
  rw [g_spec_SockOk.eq]
  simp only [l1In_eq, Option.bind_some, br_some]
  refine ⟨_, rfl, ?_⟩
  unfold SockP
  simp only [ite_t, not_t, beq_iff_eq, Bool.and_eq_true, decide_eq_true_eq, Bool.false_eq_true]
  grind
theorem sockOk_i (K : Nat) (s : S_impl_Sock) : Says (g_impl_SockOk K s) (SockP s) := by
  rw [g_impl_SockOk.eq]
  simp only [isIn_eq, sockId, Option.bind_some, br_some]
  refine ⟨_, rfl, ?_⟩
  unfold SockP
  simp only [ite_t, not_t, beq_iff_eq, Bool.and_eq_true, decide_eq_true_eq, Bool.false_eq_true]
  grind
theorem note_eq (K : Nat) (n : S_impl_Note) : g_spec_NoteOk K n = g_impl_NoteOk K n ∧ ∃ b, g_impl_NoteOk K n = some b := by
  rw [g_spec_NoteOk.eq, g_impl_NoteOk.eq]
  simp only [l1In_eq, isIn_eq, Option.bind_some, br_some]
  exact ⟨trivial, _, rfl⟩
abbrev sockAt (l : List S_impl_Sock) (j : Nat) : S_impl_Sock := List.getD l j T_impl_Sock.zero
def SocksP (l : List S_impl_Sock) : Prop := (∀ j, j < l.length → SockP (sockAt l j) ∧ (0 < j → (sockAt l (j - 1)).1 < (sockAt l j).1)) ∧ l.length ≤ 12
theorem socksOk_s {K : Nat} (hK : maxLen + 2 ≤ K) (l : List S_impl_Sock) (hl : l.length ≤ 1048576) : Says (g_spec_SocksOk K l) (SocksP l) := by
  rw [g_spec_SocksOk.eq]
  refine says_loop0 (L := fun k v => L_spec_SocksOk_2 K k l v) hK (n := l.length) (by omega) (P := fun j => SockP (sockAt l j) ∧ (0 < j → (sockAt l (j - 1)).1 < (sockAt l j).1)) ?_ ?_
  · intro k i hi
    obtain ⟨b, b1, b2⟩ := sockOk_s K (sockAt l i)
    have hin : (decide (0 ≤ (i : Int)) && decide ((i : Int) < ((l.length : Nat) : Int))) = true := by simp; omega
    show (_ → L_spec_SocksOk_2 K (k + 1) l (i : Int) = _) ∧ (_ → L_spec_SocksOk_2 K (k + 1) l (i : Int) = _)
    rw [L_spec_SocksOk_2.step, br_true (decide_eq_true (by omega)), hin, br_t, br_t, show (i : Int).toNat = i by omega, b1, Option.bind_some, wrap_id (k := (i : Int) + 1) (by omega) (by omega), wrap_id (k := (i : Int) - 1) (by omega) (by omega)]
    cases b with
    | false => exact ⟨fun h => absurd (b2.2 h.1) (by simp), fun _ => rfl⟩
    | true =>
      have hs := b2.1 rfl
      rw [br_false (c := !true) rfl]
      by_cases h0 : i = 0
      · subst h0
        rw [br_false (by decide)]
        exact ⟨fun _ => rfl, fun h => absurd ⟨hs, fun h => absurd h (by omega)⟩ h⟩
      · rw [br_true (decide_eq_true (by omega)), br_true (by simp; omega), show ((i : Int) - 1).toNat = i - 1 by omega]
        by_cases hlt : (sockAt l (i - 1)).1 < (sockAt l i).1
        · rw [br_false]
          rotate_left
          · exact decide_eq_false (fun h => absurd (show (sockAt l (i - 1)).1 ≥ (sockAt l i).1 from h) (by omega))
          exact ⟨fun _ => rfl, fun h => absurd ⟨hs, fun _ => hlt⟩ h⟩
        · rw [br_true]
          rotate_left
          · exact decide_eq_true (show (sockAt l (i - 1)).1 ≥ (sockAt l i).1 by omega)
          exact ⟨fun h => absurd (h.2 (by omega)) hlt, fun _ => rfl⟩
  · intro k
    show Says (L_spec_SocksOk_2 K (k + 1) l (l.length : Int)) _
    rw [L_spec_SocksOk_2.step, br_false (decide_eq_false (by omega))]
    exact Says.d.imp (by omega)
theorem socksOk_i {K : Nat} (hK : maxLen + 2 ≤ K) (l : List S_impl_Sock) (hl : l.length ≤ 1048576) : Says (g_impl_SocksOk K l) (SocksP l) := by
  rw [g_impl_SocksOk.eq]
  refine says_loop0 (L := fun k v => L_impl_SocksOk_2 K k l v) hK (n := l.length) (by omega) (P := fun j => SockP (sockAt l j) ∧ (0 < j → (sockAt l (j - 1)).1 < (sockAt l j).1)) ?_ ?_
  · intro k i hi
    obtain ⟨b, b1, b2⟩ := sockOk_i K (sockAt l i)
    have hin : (decide (0 ≤ (i : Int)) && decide ((i : Int) < ((l.length : Nat) : Int))) = true := by simp; omega
    show (_ → L_impl_SocksOk_2 K (k + 1) l (i : Int) = _) ∧ (_ → L_impl_SocksOk_2 K (k + 1) l (i : Int) = _)
    rw [L_impl_SocksOk_2.step, br_true (decide_eq_true (by omega)), hin, br_t, show (i : Int).toNat = i by omega, b1, Option.bind_some, wrap_id (k := (i : Int) + 1) (by omega) (by omega), wrap_id (k := (i : Int) - 1) (by omega) (by omega)]
    cases b with
    | false => exact ⟨fun h => absurd (b2.2 h.1) (by simp), fun _ => rfl⟩
    | true =>
      have hs := b2.1 rfl
      rw [br_false (c := !true) rfl]
      by_cases h0 : i = 0
      · subst h0
        rw [br_false (by decide)]
        exact ⟨fun _ => rfl, fun h => absurd ⟨hs, fun h => absurd h (by omega)⟩ h⟩
      · rw [br_true (decide_eq_true (by omega)), br_true (by simp; omega), show ((i : Int) - 1).toNat = i - 1 by omega]
        by_cases hlt : (sockAt l (i - 1)).1 < (sockAt l i).1
        · rw [br_false]
          rotate_left
          · exact decide_eq_false (fun h => absurd (show (sockAt l i).1 ≤ (sockAt l (i - 1)).1 from h) (by omega))
          exact ⟨fun _ => rfl, fun h => absurd ⟨hs, fun _ => hlt⟩ h⟩
        · rw [br_true]
          rotate_left
          · exact decide_eq_true (show (sockAt l i).1 ≤ (sockAt l (i - 1)).1 by omega)
          exact ⟨fun h => absurd (h.2 (by omega)) hlt, fun _ => rfl⟩
  · intro k
    show Says (L_impl_SocksOk_2 K (k + 1) l (l.length : Int)) _
    rw [L_impl_SocksOk_2.step, br_false (decide_eq_false (by omega))]
    exact Says.d.imp (by omega)
end F5
