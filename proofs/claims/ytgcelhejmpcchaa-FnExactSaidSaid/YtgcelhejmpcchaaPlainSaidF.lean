/- Said's plain law, a part: the program's text and the reference's come to the same. -/
import Derived.Test.YtgcelhejmpcchaaPlainSaidE
namespace F2
set_option linter.unusedSimpArgs false
set_option linter.unusedSectionVars false
open Go Go.Fil Go.Proofs
set_option maxRecDepth 100000
set_option linter.unusedVariables false
theorem getD_set {α : Type} (o : List α) (i : Nat) (a z : α) (h : i < o.length) : (o.set i a).getD i z = a := by
  rw [List.getD_eq_getElem?_getD, List.getElem?_set, if_pos rfl, if_pos h]; rfl
theorem set_set {α : Type} (o : List α) (i : Nat) (a b : α) : (o.set i a).set i b = o.set i b := by
  apply List.ext_getElem?
  intro j
  simp only [List.getElem?_set, List.length_set]
  by_cases e : i = j
  · subst e; simp
  · simp [e]
/-- What stands in a marked row of Frames. -/
def Fm (K : Nat) (N : Nat) (ys : List y106.T) : Prop := ys.length = N ∧ ∀ j, j < N → ∃ s, g59 K (1 + 3 * (j : Int) + 1) = some s ∧ ys[j]? = some (1 + 3 * (j : Int), (s, (1 + 3 * (j : Int) + 2, ())))
theorem markF_loop {K : Nat} (hK : maxLen + 2 ≤ K) (N : Nat) (hN : N ≤ 1048576) : ∀ (n v k : Nat) (o : List y106.T), v + n = N → n < k → o.length = N → (∀ j, j < v → ∃ s, g59 K (1 + 3 * (j : Int) + 1) = some s ∧ o[j]? = some (1 + 3 * (j : Int), (s, (1 + 3 * (j : Int) + 2, ())))) → ∃ ys, X29_2 K k (1 + 3 * (v : Int)) (v : Int) o = some (1 + 3 * (N : Int), ys) ∧ Fm K N ys
  | 0, v, k + 1, o, hv, _, ho, hj => by
    have hv : v = N := by omega
    subst hv
    have d : decide ((v : Int) < ((List.length o : Nat) : Int)) = false := decide_eq_false (by omega)
    rw [X29_2.step, d, br_f]
    exact ⟨o, rfl, ho, hj⟩
  | n + 1, v, k + 1, o, hv, hk, ho, hj => by
    have hlt : v < o.length := by omega
    obtain ⟨s, hs⟩ := m59 hK (1 + 3 * (v : Int) + 1) (by omega) (by omega)
    have d : decide ((v : Int) < ((List.length o : Nat) : Int)) = true := decide_eq_true (by omega)
    have d0 : decide (0 ≤ (v : Int)) = true := decide_eq_true (by omega)
    rw [X29_2.step, wrap_id (k := 1 + 3 * (v : Int) + 1) (by omega) (by omega), wrap_id (k := 1 + 3 * (v : Int) + 1 + 1) (by omega) (by omega), wrap_id (k := 1 + 3 * (v : Int) + 1 + 1 + 1) (by omega) (by omega), wrap_id (k := (v : Int) + 1) (by omega) (by omega), hs]
    simp only [Int.toNat_natCast, List.length_set, d, d0, Bool.and_self, br_t, Option.bind_some, set_set, getD_set o v _ y106.zero hlt]
    obtain ⟨ys, h1, h2⟩ := markF_loop hK N hN n (v + 1) k (o.set v (1 + 3 * (v : Int), (s, (1 + 3 * (v : Int) + 2, ())))) (by omega) (by omega) (by simpa using ho) (by
      intro j hjv
      rw [List.getElem?_set]
      by_cases e : v = j
      · subst e; rw [if_pos rfl, if_pos hlt]; exact ⟨s, hs, rfl⟩
      · rw [if_neg e]; exact hj j (by omega))
    refine ⟨ys, ?_, h2⟩
    rw [← h1]
    have e1 : 1 + 3 * ((v + 1 : Nat) : Int) = 1 + 3 * (v : Int) + 1 + 1 + 1 := by omega
    have e2 : 1 + 3 * (v : Int) + 2 = 1 + 3 * (v : Int) + 1 + 1 := by omega
    rw [e1, e2]
    rfl
  | _, _, 0, _, _, h, _, _ => absurd h (Nat.not_lt_zero _)
end F2
