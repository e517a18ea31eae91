/- Said's plain law, a part: the program's text and the reference's come to the same. -/
import Derived.Test.YtgcelhejmpcchaaPlainSaidF
namespace F2
set_option linter.unusedSimpArgs false
set_option linter.unusedSectionVars false
open Go Go.Fil Go.Proofs
set_option maxRecDepth 100000
set_option linter.unusedVariables false
theorem heldF_loop {K : Nat} (N : Nat) (hN : N ≤ 1048576) (ys : List y106.T) (hy : Fm K N ys) : ∀ (n v k : Nat), v + n = N → n < k → L30_2 K k ys (1 + 3 * (v : Int)) (v : Int) = some (1 + 3 * (N : Int))
  | 0, v, k + 1, hv, _ => by
    have hv : v = N := by omega
    subst hv
    have d : decide ((v : Int) < ((List.length ys : Nat) : Int)) = false := decide_eq_false (by rw [hy.1]; omega)
    rw [L30_2.step, d, br_f]
  | n + 1, v, k + 1, hv, hk => by
    obtain ⟨s, hs, hg⟩ := hy.2 v (by omega)
    have hget : List.getD ys (Int.toNat (v : Int)) y106.zero = (1 + 3 * (v : Int), (s, (1 + 3 * (v : Int) + 2, ()))) := by
      rw [Int.toNat_natCast, List.getD_eq_getElem?_getD, hg]; rfl
    have d : decide ((v : Int) < ((List.length ys : Nat) : Int)) = true := decide_eq_true (by rw [hy.1]; omega)
    have d0 : decide (0 ≤ (v : Int)) = true := decide_eq_true (by omega)
    have e2 : 1 + 3 * (v : Int) + 2 = 1 + 3 * (v : Int) + 1 + 1 := by omega
    rw [L30_2.step, wrap_id (k := 1 + 3 * (v : Int) + 1) (by omega) (by omega), wrap_id (k := 1 + 3 * (v : Int) + 1 + 1) (by omega) (by omega), wrap_id (k := 1 + 3 * (v : Int) + 1 + 1 + 1) (by omega) (by omega), wrap_id (k := (v : Int) + 1) (by omega) (by omega), hs, hget, e2]
    simp only [d, d0, Bool.and_self, br_t, Option.bind_some, ne_self, strEq_self, Bool.not_true, br_f]
    have := heldF_loop (K := K) N hN ys hy n (v + 1) k (by omega) (by omega)
    have e1 : 1 + 3 * ((v + 1 : Nat) : Int) = 1 + 3 * (v : Int) + 1 + 1 + 1 := by omega
    rw [e1] at this
    exact this
  | _, _, 0, _, h => absurd h (Nat.not_lt_zero _)
theorem markFrames {K : Nat} (hK : maxLen + 2 ≤ K) (r : List y106.T) (h : r.length ≤ 1048576) : ∃ ys, h29 K r 1 = some (1 + 3 * (r.length : Int), ys) ∧ g30 K ys 1 = some (1 + 3 * (r.length : Int)) := by
  have hm : maxLen = 2 ^ 63 - 1 := rfl
  obtain ⟨ys, h1, h2⟩ := markF_loop hK r.length h r.length 0 K r (by omega) (by omega) rfl (fun j hj => absurd hj (Nat.not_lt_zero _))
  refine ⟨ys, ?_, ?_⟩
  · rw [h29.eq]; exact h1
  · rw [g30.eq]; exact heldF_loop r.length h ys h2 r.length 0 K (by omega) (by omega)
end F2
