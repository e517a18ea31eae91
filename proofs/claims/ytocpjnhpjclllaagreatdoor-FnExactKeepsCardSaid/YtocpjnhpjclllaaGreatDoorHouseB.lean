/- The house and the world: the way, askers, lines. -/
import Derived.Test.YtocpjnhpjclllaaGreatDoorHouseA
namespace F5
set_option linter.unusedSimpArgs false
open Go Go.Fil Go.Proofs Go.Fil.Cf
set_option maxRecDepth 100000
set_option linter.unusedVariables false
abbrev packAt (l : List S_impl_Pack) (j : Nat) : S_impl_Pack := List.getD l j T_impl_Pack.zero
def WayP (l : List S_impl_Pack) : Prop := (∀ j, j < l.length → (0 ≤ (packAt l j).1 ∧ (packAt l j).1 ≤ 1) ∧ (packAt l j).2.1.length ≤ 400) ∧ l.length ≤ 12
theorem wayOk_s {K : Nat} (hK : maxLen + 2 ≤ K) (l : List S_impl_Pack) (hl : l.length ≤ 1048576) : Says (g_spec_WayOk K l) (WayP l) := by
  rw [g_spec_WayOk.eq]
  refine says_loop0 (L := fun k v => L_spec_WayOk_2 K k l v) hK (n := l.length) (by omega) (P := fun j => (0 ≤ (packAt l j).1 ∧ (packAt l j).1 ≤ 1) ∧ (packAt l j).2.1.length ≤ 400) ?_ ?_
  · intro k i hi
    have hin : (decide (0 ≤ (i : Int)) && decide ((i : Int) < ((l.length : Nat) : Int))) = true := by simp; omega
    show (_ → L_spec_WayOk_2 K (k + 1) l (i : Int) = _) ∧ (_ → L_spec_WayOk_2 K (k + 1) l (i : Int) = _)
    rw [L_spec_WayOk_2.step, br_true (decide_eq_true (by omega)), hin, br_t, br_t, show (i : Int).toNat = i by omega, l1In_eq, Option.bind_some, wrap_id (k := (i : Int) + 1) (by omega) (by omega)]
    by_cases a1 : 0 ≤ (packAt l i).1 ∧ (packAt l i).1 ≤ 1
    · rw [in_t a1, br_false (c := !true) rfl]
      by_cases a2 : (packAt l i).2.1.length ≤ 400
      · rw [br_false]
        rotate_left
        · exact decide_eq_false (fun h => absurd (show (((packAt l i).2.1.length : Nat) : Int) > 400 from h) (by omega))
        exact ⟨fun _ => rfl, fun h => absurd ⟨a1, a2⟩ h⟩
      · rw [br_true]
        rotate_left
        · exact decide_eq_true (show (((packAt l i).2.1.length : Nat) : Int) > 400 by omega)
        exact ⟨fun h => absurd h.2 a2, fun _ => rfl⟩
    · rw [in_f a1, br_true (c := !false) rfl]
      exact ⟨fun h => absurd h.1 a1, fun _ => rfl⟩
  · intro k
    show Says (L_spec_WayOk_2 K (k + 1) l (l.length : Int)) _
    rw [L_spec_WayOk_2.step, br_false (decide_eq_false (by omega))]
    exact Says.d.imp (by omega)
theorem wayOk_i {K : Nat} (hK : maxLen + 2 ≤ K) (l : List S_impl_Pack) (hl : l.length ≤ 1048576) : Says (g_impl_WayOk K l) (WayP l) := by
  rw [g_impl_WayOk.eq]
  refine says_loop0 (L := fun k v => L_impl_WayOk_2 K k l v) hK (n := l.length) (by omega) (P := fun j => (0 ≤ (packAt l j).1 ∧ (packAt l j).1 ≤ 1) ∧ (packAt l j).2.1.length ≤ 400) ?_ ?_
  · intro k i hi
    have hin : (decide (0 ≤ (i : Int)) && decide ((i : Int) < ((l.length : Nat) : Int))) = true := by simp; omega
    show (_ → L_impl_WayOk_2 K (k + 1) l (i : Int) = _) ∧ (_ → L_impl_WayOk_2 K (k + 1) l (i : Int) = _)
    rw [L_impl_WayOk_2.step, br_true (decide_eq_true (by omega)), hin, br_t, show (i : Int).toNat = i by omega, isIn_eq, Option.bind_some, wrap_id (k := (i : Int) + 1) (by omega) (by omega)]
    by_cases a1 : 0 ≤ (packAt l i).1 ∧ (packAt l i).1 ≤ 1
    · rw [in_t a1, br_false (c := !true) rfl]
      by_cases a2 : (packAt l i).2.1.length ≤ 400
      · rw [br_false]
        rotate_left
        · exact decide_eq_false (fun h => absurd (show (((packAt l i).2.1.length : Nat) : Int) > 400 from h) (by omega))
        exact ⟨fun _ => rfl, fun h => absurd ⟨a1, a2⟩ h⟩
      · rw [br_true]
        rotate_left
        · exact decide_eq_true (show (((packAt l i).2.1.length : Nat) : Int) > 400 by omega)
        exact ⟨fun h => absurd h.2 a2, fun _ => rfl⟩
    · rw [in_f a1, br_true (c := !false) rfl]
      exact ⟨fun h => absurd h.1 a1, fun _ => rfl⟩
  · intro k
    show Says (L_impl_WayOk_2 K (k + 1) l (l.length : Int)) _
    rw [L_impl_WayOk_2.step, br_false (decide_eq_false (by omega))]
    exact Says.d.imp (by omega)
/-! ### askers and lines -/
theorem strEq_d (a b : ByteArray) : strEq a b = decide (a = b) := by
  by_cases h : a = b
  · rw [(strEq_iff a b).2 h]; simp [h]
  · rw [strEq_f h]; simp [h]
theorem beqB_d (a b : ByteArray) : (a == b) = decide (a = b) := by
  by_cases h : a = b
  · rw [(beqB_iff a b).2 h]; simp [h]
  · cases e : (a == b)
    · simp [h]
    · exact absurd ((beqB_iff a b).1 e) h
theorem eqAsker (x y : S_impl_Asker) : eqT T_impl_Asker x y = (x.1 == y.1 && ((x.2.1 == y.2.1) && (x.2.2.1 == y.2.2.1 && (x.2.2.2.1 == y.2.2.2.1 && (x.2.2.2.2.1 == y.2.2.2.2.1 && ((x.2.2.2.2.2.1 == y.2.2.2.2.2.1) && (x.2.2.2.2.2.2.1 == y.2.2.2.2.2.2.1 && (x.2.2.2.2.2.2.2.1 == y.2.2.2.2.2.2.2.1 && true)))))))) := rfl
def eps : ByteArray := ⟨#[]⟩
def AskP (K : Nat) (a : S_impl_Asker) : Prop := (1 ≤ a.1 ∧ a.1 ≤ 9999) ∧ (0 ≤ a.2.2.1 ∧ a.2.2.1 ≤ 4) ∧ (a.2.2.1 = 0 → a.2.1 = eps) ∧ (a.2.2.1 ≠ 0 → g_impl_nameOk K a.2.1 = some true) ∧
  (a.2.2.1 ≠ 2 → a.2.2.2.1 = 0 ∧ a.2.2.2.2.1 = 0 ∧ a.2.2.2.2.2.1 = eps) ∧ (a.2.2.1 < 3 → a.2.2.2.2.2.2.1 = 0 ∧ a.2.2.2.2.2.2.2.1 = 0) ∧
  (a.2.2.1 = 2 → (0 ≤ a.2.2.2.1 ∧ a.2.2.2.1 ≤ 65535) ∧ (0 ≤ a.2.2.2.2.1 ∧ a.2.2.2.2.1 ≤ 100000) ∧ g_impl_TextOk K a.2.2.2.2.2.1 = some true) ∧
  (3 ≤ a.2.2.1 → (1 ≤ a.2.2.2.2.2.2.1 ∧ a.2.2.2.2.2.2.1 ≤ 9999) ∧ 1 ≤ a.2.2.2.2.2.2.2.1)
theorem askOk_s {K : Nat} (hK : maxLen + 2 ≤ K) (a : S_impl_Asker) (h1 : a.2.1.size ≤ 1048576) (h2 : a.2.2.2.2.2.1.size ≤ 1048576) : Says (g_spec_AskerOk K a) (AskP K a) := by
  obtain ⟨n, n1, n2, _⟩ := name hK a.2.1 h1
  obtain ⟨t, t1, t2, _⟩ := textOk hK a.2.2.2.2.2.1 h2
  rw [g_spec_AskerOk.eq]
  simp only [l1In_eq, since_s, n1, t1, Option.bind_some, br_some]
  refine ⟨_, rfl, ?_⟩
  unfold AskP
  rw [n2, t2]
  simp only [ite_t, not_t, strEq_d, beq_iff_eq, bne_iff_ne, Bool.and_eq_true, Bool.not_eq_true', decide_eq_true_eq, decide_eq_false_iff_not, Bool.false_eq_true, Option.some.injEq, eps]
  generalize a.2.2.1 = st
  by_cases s0 : st = 0
  · subst s0; cases n <;> cases t <;> simp <;> grind
  by_cases s1 : st = 1
  · subst s1; cases n <;> cases t <;> simp <;> grind
  by_cases s2 : st = 2
  · subst s2; cases n <;> cases t <;> simp <;> grind
  by_cases s3 : st = 3
  · subst s3; cases n <;> cases t <;> simp <;> grind
  by_cases s4 : st = 4
  · subst s4; cases n <;> cases t <;> simp <;> grind
  have hno : ¬ (0 ≤ st ∧ st ≤ 4) := by omega
  simp only [s0, s1, s2, s3, s4, hno]
  grind
theorem askOk_i {K : Nat} (hK : maxLen + 2 ≤ K) (a : S_impl_Asker) (h1 : a.2.1.size ≤ 1048576) (h2 : a.2.2.2.2.2.1.size ≤ 1048576) : Says (g_impl_AskerOk K a) (AskP K a) := by
  obtain ⟨n, n1, n2, _⟩ := name hK a.2.1 h1
  obtain ⟨t, t1, t2, _⟩ := textOk hK a.2.2.2.2.2.1 h2
  rw [g_impl_AskerOk.eq]
  simp only [isIn_eq, sockId, since_i, wordI, n2, t2, eqAsker, Option.bind_some, br_some]
  refine ⟨_, rfl, ?_⟩
  unfold AskP
  rw [n2, t2]
  simp only [ite_t, not_t, beqB_d, beq_iff_eq, bne_iff_ne, Bool.and_eq_true, Bool.not_eq_true', decide_eq_true_eq, decide_eq_false_iff_not, Bool.false_eq_true, Option.some.injEq, eps]
  generalize a.2.2.1 = st
  by_cases s0 : st = 0
  · subst s0; cases n <;> cases t <;> simp <;> grind
  by_cases s1 : st = 1
  · subst s1; cases n <;> cases t <;> simp <;> grind
  by_cases s2 : st = 2
  · subst s2; cases n <;> cases t <;> simp <;> grind
  by_cases s3 : st = 3
  · subst s3; cases n <;> cases t <;> simp <;> grind
  by_cases s4 : st = 4
  · subst s4; cases n <;> cases t <;> simp <;> grind
  have hno : ¬ (0 ≤ st ∧ st ≤ 4) := by omega
  simp only [s0, s1, s2, s3, s4, hno]
  grind
theorem line_eq {K : Nat} (hK : maxLen + 2 ≤ K) (l : S_impl_Line) (h1 : l.2.1.size ≤ 1048576) : g_spec_LineOk K l = g_impl_LineOk K l ∧ ∃ b, g_impl_LineOk K l = some b := by
  obtain ⟨n, n1, n2, _⟩ := name hK l.2.1 h1
  rw [g_spec_LineOk.eq, g_impl_LineOk.eq]
  simp only [l1In_eq, isIn_eq, since_s, since_i, sockId, n1, n2, Option.bind_some, br_some]
  refine ⟨?_, _, rfl⟩
  congr 1
  rw [Bool.eq_iff_iff]
  simp only [ite_t, not_t, beq_iff_eq, bne_iff_ne, Bool.and_eq_true, Bool.not_eq_true', decide_eq_true_eq, decide_eq_false_iff_not, Bool.false_eq_true]
  cases n <;> (try simp only [Bool.false_eq_true]) <;> grind
theorem lent_eq (K : Nat) (a : S_impl_Asker) (l : S_impl_Line) : g_spec_l10Lent K a l = g_impl_leased K a l ∧ ∃ b, g_impl_leased K a l = some b := by
  rw [g_spec_l10Lent.eq, g_impl_leased.eq]
  simp only [Option.bind_some, br_some]
  refine ⟨?_, _, rfl⟩
  congr 1
  rw [Bool.eq_iff_iff]
  simp only [ite_t, not_t, strEq_d, beq_iff_eq, bne_iff_ne, Bool.and_eq_true, Bool.not_eq_true', decide_eq_true_eq, decide_eq_false_iff_not, Bool.false_eq_true]
  grind
end F5
