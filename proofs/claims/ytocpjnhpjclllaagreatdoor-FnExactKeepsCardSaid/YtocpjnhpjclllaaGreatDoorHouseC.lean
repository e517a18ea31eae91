/- The house: its lists. -/
import Derived.Test.YtocpjnhpjclllaaGreatDoorHouseB
namespace F5
set_option linter.unusedSimpArgs false
open Go Go.Fil Go.Proofs Go.Fil.Cf
set_option maxRecDepth 100000
set_option linter.unusedVariables false
abbrev lnAt (l : List S_impl_Line) (j : Nat) : S_impl_Line := List.getD l j T_impl_Line.zero
abbrev akAt (l : List S_impl_Asker) (j : Nat) : S_impl_Asker := List.getD l j T_impl_Asker.zero
theorem lnAt_mem {l : List S_impl_Line} {i : Nat} (hi : i < l.length) : lnAt l i ∈ l := by
  rw [lnAt, List.getD_eq_getElem?_getD, List.getElem?_eq_getElem hi]
  exact List.getElem_mem hi
theorem akAt_mem {l : List S_impl_Asker} {i : Nat} (hi : i < l.length) : akAt l i ∈ l := by
  rw [akAt, List.getD_eq_getElem?_getD, List.getElem?_eq_getElem hi]
  exact List.getElem_mem hi
theorem lineAt_same (K : Nat) (l : List S_impl_Line) (n : Int) : ∀ (k : Nat) (v : Int), L_slices_IndexFunc_S_impl_Line_2 K k l n v = L_spec_LineAt_2 K k l n v
  | 0, v => by rw [L_slices_IndexFunc_S_impl_Line_2.zero, L_spec_LineAt_2.zero]
  | k + 1, v => by rw [L_slices_IndexFunc_S_impl_Line_2.step, L_spec_LineAt_2.step, g_impl_LineAt_1.eq, Option.bind_some, lineAt_same K l n k]
theorem askAt_same (K : Nat) (l : List S_impl_Asker) (n : Int) : ∀ (k : Nat) (v : Int), L_slices_IndexFunc_S_impl_Asker_2 K k l n v = L_spec_AskerAt_2 K k l n v
  | 0, v => by rw [L_slices_IndexFunc_S_impl_Asker_2.zero, L_spec_AskerAt_2.zero]
  | k + 1, v => by rw [L_slices_IndexFunc_S_impl_Asker_2.step, L_spec_AskerAt_2.step, g_impl_AskerAt_1.eq, Option.bind_some, askAt_same K l n k]
/-- Where a number stands: nowhere, or at its place. -/
def Found (m : Nat) (id : Nat → Int) (n : Int) (r : Int) : Prop := (r < 0 ∧ ∀ j, j < m → id j ≠ n) ∨ ∃ i : Nat, i < m ∧ r = (i : Int) ∧ id i = n
theorem lineAt_run {K : Nat} (l : List S_impl_Line) (hl : l.length ≤ 1048576) (n : Int) : ∀ (q i k : Nat), i + q = l.length → q < k → (∀ j, j < i → (lnAt l j).1 ≠ n) → ∃ r : Int, L_spec_LineAt_2 K k l n (i : Int) = some r ∧ Found l.length (fun j => (lnAt l j).1) n r
  | 0, i, k + 1, hi, hk, hb => by
    rw [L_spec_LineAt_2.step, br_false (decide_eq_false (by omega))]
    exact ⟨-1, rfl, .inl ⟨by omega, fun j hj => hb j (by omega)⟩⟩
  | q + 1, i, k + 1, hi, hk, hb => by
    rw [L_spec_LineAt_2.step, br_true (decide_eq_true (by omega)), br_true (by simp; omega), show (i : Int).toNat = i by omega, wrap_id (k := (i : Int) + 1) (by omega) (by omega)]
    by_cases e : (lnAt l i).1 = n
    · rw [br_true (beq_true e)]
      exact ⟨_, rfl, .inr ⟨i, by omega, rfl, e⟩⟩
    · rw [br_false (beq_false e)]
      have := lineAt_run (K := K) l hl n q (i + 1) k (by omega) (by omega) (fun j hj => by
        by_cases ej : j = i
        · subst ej; exact e
        · exact hb j (by omega))
      rwa [Int.natCast_add] at this
  | _, _, 0, _, h, _ => absurd h (Nat.not_lt_zero _)
theorem lineAt {K : Nat} (hK : maxLen + 2 ≤ K) (l : List S_impl_Line) (hl : l.length ≤ 1048576) (n : Int) : ∃ r : Int, g_spec_LineAt K l n = some r ∧ g_impl_LineAt K l n = some r ∧ Found l.length (fun j => (lnAt l j).1) n r := by
  have hm : maxLen = 2 ^ 63 - 1 := rfl
  obtain ⟨r, r1, r2⟩ := lineAt_run (K := K) l hl n l.length 0 K (by omega) (by omega) (fun j hj => absurd hj (by omega))
  refine ⟨r, by rw [g_spec_LineAt.eq]; exact r1, ?_, r2⟩
  rw [g_impl_LineAt.eq, g_slices_IndexFunc_S_impl_Line.eq, lineAt_same]
  exact congrArg (fun o => Option.bind o fun y => some y) r1
theorem askAt_run {K : Nat} (l : List S_impl_Asker) (hl : l.length ≤ 1048576) (n : Int) : ∀ (q i k : Nat), i + q = l.length → q < k → (∀ j, j < i → (akAt l j).1 ≠ n) → ∃ r : Int, L_spec_AskerAt_2 K k l n (i : Int) = some r ∧ Found l.length (fun j => (akAt l j).1) n r
  | 0, i, k + 1, hi, hk, hb => by
    rw [L_spec_AskerAt_2.step, br_false (decide_eq_false (by omega))]
    exact ⟨-1, rfl, .inl ⟨by omega, fun j hj => hb j (by omega)⟩⟩
  | q + 1, i, k + 1, hi, hk, hb => by
    rw [L_spec_AskerAt_2.step, br_true (decide_eq_true (by omega)), br_true (by simp; omega), show (i : Int).toNat = i by omega, wrap_id (k := (i : Int) + 1) (by omega) (by omega)]
    by_cases e : (akAt l i).1 = n
    · rw [br_true (beq_true e)]
      exact ⟨_, rfl, .inr ⟨i, by omega, rfl, e⟩⟩
    · rw [br_false (beq_false e)]
      have := askAt_run (K := K) l hl n q (i + 1) k (by omega) (by omega) (fun j hj => by
        by_cases ej : j = i
        · subst ej; exact e
        · exact hb j (by omega))
      rwa [Int.natCast_add] at this
  | _, _, 0, _, h, _ => absurd h (Nat.not_lt_zero _)
theorem askAt {K : Nat} (hK : maxLen + 2 ≤ K) (l : List S_impl_Asker) (hl : l.length ≤ 1048576) (n : Int) : ∃ r : Int, g_spec_AskerAt K l n = some r ∧ g_impl_AskerAt K l n = some r ∧ Found l.length (fun j => (akAt l j).1) n r := by
  have hm : maxLen = 2 ^ 63 - 1 := rfl
  obtain ⟨r, r1, r2⟩ := askAt_run (K := K) l hl n l.length 0 K (by omega) (by omega) (fun j hj => absurd hj (by omega))
  refine ⟨r, by rw [g_spec_AskerAt.eq]; exact r1, ?_, r2⟩
  rw [g_impl_AskerAt.eq, g_slices_IndexFunc_S_impl_Asker.eq, askAt_same]
  exact congrArg (fun o => Option.bind o fun y => some y) r1
/-! ### the lists -/
structure HS (h : S_impl_House) : Prop where
  la : h.2.2.2.2.2.1.length ≤ 1048576
  ll : h.2.2.2.2.2.2.1.length ≤ 1048576
  lc : h.2.2.2.1.length ≤ 1048576
  a1 : ∀ a ∈ h.2.2.2.2.2.1, a.2.1.size ≤ 1048576
  a2 : ∀ a ∈ h.2.2.2.2.2.1, a.2.2.2.2.2.1.size ≤ 1048576
  l1 : ∀ a ∈ h.2.2.2.2.2.2.1, a.2.1.size ≤ 1048576
  c1 : ∀ d ∈ h.2.2.2.1, d.1.size ≤ 1048576
def LnP (K : Nat) (h : S_impl_House) (j : Nat) : Prop := g_impl_LineOk K (lnAt h.2.2.2.2.2.2.1 j) = some true ∧ (0 < j → (lnAt h.2.2.2.2.2.2.1 (j - 1)).1 < (lnAt h.2.2.2.2.2.2.1 j).1)
def AkP (K : Nat) (h : S_impl_House) (j : Nat) : Prop := AskP K (akAt h.2.2.2.2.2.1 j) ∧ (0 < j → (akAt h.2.2.2.2.2.1 (j - 1)).1 < (akAt h.2.2.2.2.2.1 j).1) ∧ (∀ m, m < h.2.2.2.2.2.2.1.length → (lnAt h.2.2.2.2.2.2.1 m).1 ≠ (akAt h.2.2.2.2.2.1 j).1) ∧ ((akAt h.2.2.2.2.2.1 j).2.2.1 = 2 → (akAt h.2.2.2.2.2.1 j).2.2.2.1 < h.2.2.2.2.2.2.2.1 ∧ ∀ j', j' < j → (akAt h.2.2.2.2.2.1 j').2.2.1 = 2 → (akAt h.2.2.2.2.2.1 j').2.2.2.1 ≠ (akAt h.2.2.2.2.2.1 j).2.2.2.1)
def HTail (h : S_impl_House) : Prop := h.2.2.2.2.2.1.length ≤ 6 ∧ h.2.2.2.2.2.2.1.length ≤ 9 ∧ 0 ≤ h.2.2.2.2.2.2.2.1 ∧ h.2.2.2.2.2.2.2.1 ≤ 65535
theorem lines_s {K : Nat} (hK : maxLen + 2 ≤ K) (h : S_impl_House) (hs : HS h) : Says (L_spec_l10Lists_16 K K 0 h) ((∀ j, j < h.2.2.2.2.2.2.1.length → LnP K h j) ∧ HTail h) := by
  have hll := hs.ll
  refine says_loop0 (L := fun k v => L_spec_l10Lists_16 K k v h) hK (n := h.2.2.2.2.2.2.1.length) (by omega) (P := LnP K h) ?_ ?_
  · intro k i hi
    obtain ⟨e, b, b1⟩ := line_eq hK (lnAt h.2.2.2.2.2.2.1 i) (hs.l1 _ (lnAt_mem hi))
    have hin : (decide (0 ≤ (i : Int)) && decide ((i : Int) < ((h.2.2.2.2.2.2.1.length : Nat) : Int))) = true := by simp; omega
    show (_ → L_spec_l10Lists_16 K (k + 1) (i : Int) h = _) ∧ (_ → L_spec_l10Lists_16 K (k + 1) (i : Int) h = _)
    unfold LnP
    rw [L_spec_l10Lists_16.step, br_true (decide_eq_true (by omega)), hin, br_t, br_t, show (i : Int).toNat = i by omega, e, b1, Option.bind_some, wrap_id (k := (i : Int) + 1) (by omega) (by omega), wrap_id (k := (i : Int) - 1) (by omega) (by omega)]
    cases b with
    | false => exact ⟨fun h => absurd h.1 (by simp), fun _ => rfl⟩
    | true =>
      rw [br_false (c := !true) rfl]
      by_cases h0 : i = 0
      · subst h0
        rw [br_false (by decide)]
        exact ⟨fun _ => rfl, fun h => absurd ⟨rfl, fun h => absurd h (by omega)⟩ h⟩
      · rw [br_true (decide_eq_true (by omega)), br_true (by simp; omega), show ((i : Int) - 1).toNat = i - 1 by omega]
        by_cases hlt : (lnAt h.2.2.2.2.2.2.1 (i - 1)).1 < (lnAt h.2.2.2.2.2.2.1 i).1
        · rw [br_false]
          rotate_left
          · exact decide_eq_false (fun g => absurd (show (lnAt h.2.2.2.2.2.2.1 (i - 1)).1 ≥ (lnAt h.2.2.2.2.2.2.1 i).1 from g) (by omega))
          exact ⟨fun _ => rfl, fun h => absurd ⟨rfl, fun _ => hlt⟩ h⟩
        · rw [br_true]
          rotate_left
          · exact decide_eq_true (show (lnAt h.2.2.2.2.2.2.1 (i - 1)).1 ≥ (lnAt h.2.2.2.2.2.2.1 i).1 by omega)
          exact ⟨fun h => absurd (h.2 (by omega)) hlt, fun _ => rfl⟩
  · intro k
    show Says (L_spec_l10Lists_16 K (k + 1) (h.2.2.2.2.2.2.1.length : Int) h) _
    rw [L_spec_l10Lists_16.step, br_false (decide_eq_false (by omega)), l1In_eq, Option.bind_some]
    refine Says.br (fun c1 => Says.br (fun c2 => ⟨_, rfl, ?_⟩) (fun c2 => Says.f ?_)) (fun c1 => Says.f ?_)
    · have c1 := of_decide_eq_true c1
      have c2 := of_decide_eq_true c2
      unfold HTail
      simp
      omega
    · have c2 := of_decide_eq_false c2
      intro g
      have := g.2.1
      omega
    · have c1 := of_decide_eq_false c1
      intro g
      have := g.1
      omega
theorem lines_i {K : Nat} (hK : maxLen + 2 ≤ K) (h : S_impl_House) (hs : HS h) : Says (L_impl_listsOk_15 K K 0 h) ((∀ j, j < h.2.2.2.2.2.2.1.length → LnP K h j) ∧ True) := by
  have hll := hs.ll
  refine says_loop0 (L := fun k v => L_impl_listsOk_15 K k v h) hK (n := h.2.2.2.2.2.2.1.length) (by omega) (P := LnP K h) ?_ ?_
  · intro k i hi
    obtain ⟨e, b, b1⟩ := line_eq hK (lnAt h.2.2.2.2.2.2.1 i) (hs.l1 _ (lnAt_mem hi))
    have hin : (decide (0 ≤ (i : Int)) && decide ((i : Int) < ((h.2.2.2.2.2.2.1.length : Nat) : Int))) = true := by simp; omega
    show (_ → L_impl_listsOk_15 K (k + 1) (i : Int) h = _) ∧ (_ → L_impl_listsOk_15 K (k + 1) (i : Int) h = _)
    unfold LnP
    rw [L_impl_listsOk_15.step, br_true (decide_eq_true (by omega)), hin, br_t, show (i : Int).toNat = i by omega, b1, Option.bind_some, wrap_id (k := (i : Int) + 1) (by omega) (by omega), wrap_id (k := (i : Int) - 1) (by omega) (by omega)]
    cases b with
    | false => exact ⟨fun h => absurd h.1 (by simp), fun _ => rfl⟩
    | true =>
      rw [br_false (c := !true) rfl]
      by_cases h0 : i = 0
      · subst h0
        rw [br_false (by decide)]
        exact ⟨fun _ => rfl, fun h => absurd ⟨rfl, fun h => absurd h (by omega)⟩ h⟩
      · rw [br_true (decide_eq_true (by omega)), br_true (by simp; omega), show ((i : Int) - 1).toNat = i - 1 by omega]
        by_cases hlt : (lnAt h.2.2.2.2.2.2.1 (i - 1)).1 < (lnAt h.2.2.2.2.2.2.1 i).1
        · rw [br_false]
          rotate_left
          · exact decide_eq_false (fun g => absurd (show (lnAt h.2.2.2.2.2.2.1 i).1 ≤ (lnAt h.2.2.2.2.2.2.1 (i - 1)).1 from g) (by omega))
          exact ⟨fun _ => rfl, fun h => absurd ⟨rfl, fun _ => hlt⟩ h⟩
        · rw [br_true]
          rotate_left
          · exact decide_eq_true (show (lnAt h.2.2.2.2.2.2.1 i).1 ≤ (lnAt h.2.2.2.2.2.2.1 (i - 1)).1 by omega)
          exact ⟨fun h => absurd (h.2 (by omega)) hlt, fun _ => rfl⟩
  · intro k
    show Says (L_impl_listsOk_15 K (k + 1) (h.2.2.2.2.2.2.1.length : Int) h) _
    rw [L_impl_listsOk_15.step, br_false (decide_eq_false (by omega))]
    exact Says.t trivial
end F5
