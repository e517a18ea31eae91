/- Said: the plain law. -/
import Derived.Test.YtgcelhejmpcchaaPurSaid
namespace F2
set_option linter.unusedSimpArgs false
set_option linter.unusedSectionVars false
open Go Go.Fil Go.Proofs
set_option maxRecDepth 100000
set_option linter.unusedVariables false
theorem idx_eq (K : Nat) (x : y43.T) (n : Int) : ∀ (k : Nat) (v : Int), L83_2 K k x n v = L54_2 K k x n v
  | 0, v => by rw [L83_2.zero, L54_2.zero]
  | k + 1, v => by rw [L83_2.step, L54_2.step, g84.eq, Option.bind_some, idx_eq K x n k]
theorem idx_run {K : Nat} (x : y43.T) (n : Int) (hl : List.length x ≤ 1048576) : ∀ (q v k : Nat), v + q = List.length x → q < k → ∃ r : Int, L54_2 K k x n (v : Int) = some r ∧ r < (List.length x : Int)
  | 0, v, k + 1, hv, _ => by
    rw [L54_2.step, br_false (by simp; omega)]
    exact ⟨-1, rfl, by omega⟩
  | q + 1, v, k + 1, hv, hk => by
    rw [L54_2.step, br_true (by simp; omega), br_true (in_true (by omega) (by omega)), wrap_id (by omega) (by omega)]
    cases hb : (((List.getD x (Int.toNat (v : Int)) y111.zero).1 : Int) == n)
    · rw [br_f]
      exact idx_run x n hl q (v + 1) k (by omega) (by omega)
    · rw [br_t]
      exact ⟨_, rfl, by omega⟩
  | _, _, 0, _, h => absurd h (Nat.not_lt_zero _)
theorem in_eq (K : Nat) (a b c : Int) : g37 K a b c = g43 K a b c := by
  rw [g37.eq, g43.eq]
theorem name_eq (K : Nat) (s : ByteArray) : ∀ (k : Nat) (v : Int), L116_2 K k s v = L118_2 K k s v
  | 0, v => by rw [L116_2.zero, L118_2.zero]
  | k + 1, v => by rw [L116_2.step, L118_2.step, name_eq K s k, in_eq]
theorem nameOk_eq (K : Nat) (s : ByteArray) : g116 K s = g118 K s := by rw [g116.eq, g118.eq, name_eq]
theorem in_run (K : Nat) (a b c : Int) : ∃ r, g43 K a b c = some r := by
  rw [g43.eq]
  cases decide (b ≤ a) <;> exact ⟨_, rfl⟩
theorem name_run {K : Nat} (s : ByteArray) (hl : s.size ≤ 1048576) : ∀ (q v k : Nat), v + q = s.size → q < k → ∃ r, L118_2 K k s (v : Int) = some r
  | 0, v, k + 1, hv, _ => by
    obtain ⟨r, hr⟩ := in_run K ((s.size : Nat) : Int) 1 8
    rw [L118_2.step, br_false (by simp; omega), hr]
    exact ⟨_, rfl⟩
  | q + 1, v, k + 1, hv, hk => by
    have hin : (decide (0 ≤ (v : Int)) && decide ((v : Int) < (s.size : Int))) = true := in_true (by omega) (by omega)
    rw [L118_2.step, br_true (by simp; omega)]
    simp only [hin, br_t]
    rw [wrap_id (by omega) (by omega)]
    cases decide (((bt s v) : Int) < 97)
    · cases decide (((bt s v) : Int) > 122)
      · exact name_run s hl q (v + 1) k (by omega) (by omega)
      · exact ⟨_, rfl⟩
    · exact ⟨_, rfl⟩
  | _, _, 0, _, h => absurd h (Nat.not_lt_zero _)
theorem text_eq {K : Nat} (s : ByteArray) (hl : s.size ≤ 1048576) : ∀ (q v k : Nat), v + q = s.size → q < k → ∃ r, L117_2 K k s (v : Int) = some r ∧ L119_2 K k s (v : Int) = some r ∧ (100 < s.size → r = false)
  | 0, v, k + 1, hv, _ => by
    have hlt : decide ((v : Int) < ((s.size : Nat) : Int)) = false := decide_eq_false (by omega)
    rw [L117_2.step, L119_2.step]
    simp only [hlt, br_f]
    exact ⟨_, rfl, rfl, fun h => decide_eq_false (by omega)⟩
  | q + 1, v, k + 1, hv, hk => by
    have hin : (decide (0 ≤ (v : Int)) && decide ((v : Int) < (s.size : Int))) = true := in_true (by omega) (by omega)
    have hlt : decide ((v : Int) < ((s.size : Nat) : Int)) = true := decide_eq_true (by omega)
    rw [L117_2.step, L119_2.step]
    simp only [hin, hlt, br_t]
    rw [wrap_id (by omega) (by omega)]
    obtain ⟨r, h1, h2, h3⟩ := text_eq s hl q (v + 1) k (by omega) (by omega)
    by_cases hv100 : (v : Int) ≤ 100
    · have h100 : decide ((v : Int) ≤ 100) = true := decide_eq_true hv100
      simp only [h100, br_t]
      cases decide (((bt s v) : Int) < 32)
      · cases decide (((bt s v) : Int) > 126)
        · exact ⟨r, h1, h2, h3⟩
        · exact ⟨false, rfl, rfl, fun _ => rfl⟩
      · exact ⟨false, rfl, rfl, fun _ => rfl⟩
    · have h100 : decide ((v : Int) ≤ 100) = false := decide_eq_false hv100
      have hs : decide (((s.size : Nat) : Int) ≤ 100) = false := decide_eq_false (by omega)
      simp only [h100, br_f, hs]
      have hr := h3 (by omega)
      subst hr
      cases decide (((bt s v) : Int) < 32)
      · cases decide (((bt s v) : Int) > 126)
        · exact ⟨false, rfl, h2, fun _ => rfl⟩
        · exact ⟨false, rfl, rfl, fun _ => rfl⟩
      · exact ⟨false, rfl, rfl, fun _ => rfl⟩
  | _, _, 0, _, h => absurd h (Nat.not_lt_zero _)
theorem textOk_eq {K : Nat} (hK : maxLen + 2 ≤ K) (s : ByteArray) (hl : s.size ≤ 1048576) : ∃ r, g117 K s = some r ∧ g119 K s = some r := by
  have hm : maxLen = 2 ^ 63 - 1 := rfl
  obtain ⟨r, h1, h2, _⟩ := text_eq (K := K) s hl s.size 0 K (by omega) (by omega)
  exact ⟨r, by rw [g117.eq]; exact h1, by rw [g119.eq]; exact h2⟩
theorem beqB_iff (a b : ByteArray) : (a == b) = true ↔ a = b := by
  obtain ⟨a⟩ := a
  obtain ⟨b⟩ := b
  constructor
  · intro h
    have : (a == b) = true := h
    rw [beq_iff_eq.1 this]
  · intro h
    injection h with h
    subst h
    show (a == a) = true
    exact beq_self_eq_true a
theorem strEq_iff (a b : ByteArray) : strEq a b = true ↔ a = b := by
  unfold strEq
  rw [ByteArray.toList_eq, ByteArray.toList_eq, beq_iff_eq]
  constructor
  · intro h
    obtain ⟨a⟩ := a
    obtain ⟨b⟩ := b
    congr 1
    exact Array.toList_inj.1 h
  · rintro rfl; rfl
theorem strEq_beq (a b : ByteArray) : strEq a b = (a == b) := by
  cases h : (a == b)
  · cases h2 : strEq a b
    · rfl
    · rw [(strEq_iff a b).1 h2] at h
      rw [(beqB_iff b b).2 rfl] at h
      cases h
  · rw [(strEq_iff a b).2 ((beqB_iff a b).1 h)]
theorem frameOk_eq {K : Nat} (hK : maxLen + 2 ≤ K) (f : y106.T) (hl : ByteArray.size f.2.1 ≤ 1048576) : ∃ r, g105 K f = some r ∧ g106 K f = some r := by
  have hm : maxLen = 2 ^ 63 - 1 := rfl
  obtain ⟨t, ht1, ht2⟩ := textOk_eq hK f.2.1 hl
  obtain ⟨q, hq⟩ := name_run (K := K) f.2.1 hl (ByteArray.size f.2.1) 0 K (by omega) (by omega)
  have hn : g118 K f.2.1 = some q := by rw [g118.eq]; exact hq
  obtain ⟨z, hz⟩ := in_run K f.2.2.1 0 2
  have hbye : (f.1 == 3) = true → (br (strEq f.2.1 (⟨#[]⟩ : ByteArray)) (some ((f.2.2.1 : Int) == 0)) (some false)) = some (eqT y106 f (3, ((⟨#[]⟩ : ByteArray), (0, ()))) == true) := by
    intro h3
    have e : eqT y106 f (3, ((⟨#[]⟩ : ByteArray), (0, ()))) = ((f.1 == 3) && ((f.2.1 == (⟨#[]⟩ : ByteArray)) && ((f.2.2.1 == 0) && true))) := rfl
    rw [e, h3, strEq_beq]
    cases (f.2.1 == (⟨#[]⟩ : ByteArray)) <;> cases (f.2.2.1 == 0) <;> rfl
  rw [g105.eq, g106.eq]
  simp only [nameOk_eq, in_eq, ht1, ht2, hn, hz, Option.bind_some]
  cases h1 : ((f.1 : Int) == 1) <;> cases h2 : ((f.1 : Int) == 2) <;> cases h4 : ((f.1 : Int) == 4) <;> cases h6 : ((f.1 : Int) == 6) <;> cases h5 : ((f.1 : Int) == 5) <;> cases h3 : ((f.1 : Int) == 3) <;> simp only [br_t, br_f] <;> first
    | exact ⟨_, rfl, rfl⟩
    | exact ⟨_, hbye h3, rfl⟩
    | (cases q <;> exact ⟨_, rfl, rfl⟩)
    | (cases t <;> exact ⟨_, rfl, rfl⟩)
    | (cases strEq f.2.1 (⟨#[]⟩ : ByteArray) <;> exact ⟨_, rfl, rfl⟩)
end F2
