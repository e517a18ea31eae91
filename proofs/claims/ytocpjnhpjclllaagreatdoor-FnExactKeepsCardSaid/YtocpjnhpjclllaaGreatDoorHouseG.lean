/- The house: both say the same. -/
import Derived.Test.YtocpjnhpjclllaaGreatDoorHouseF
namespace F5
set_option linter.unusedSimpArgs false
open Go Go.Fil Go.Proofs Go.Fil.Cf
set_option maxRecDepth 100000
set_option linter.unusedVariables false
theorem eqHand (x y : S_impl_Hand) : eqT T_impl_Hand x y = (x.1 == y.1 && (x.2.1 == y.2.1 && (x.2.2.1 == y.2.2.1 && (x.2.2.2.1 == y.2.2.2.1 && true)))) := rfl
abbrev HT : Type := Int × (Int × ((List S_impl_Db) × (Bool × ((List S_impl_Asker) × ((List S_impl_Line) × (Int × (S_impl_Hand × Unit)))))))
def ownB (H G : Int) (n : Nat) (bc bp : Bool) : Bool := if (1 ≤ H ∧ H ≤ 60000) ∧ (0 ≤ G ∧ G ≤ 60000) ∧ (G = 0 → n = 0) then (if G > 0 then bc && bp else bp) else false
theorem owning {K : Nat} (N : Int) (r : HT) (bc bp : Bool) (c2 : g_impl_ConfOk K r.2.2.1 = some bc) (p2 : g_impl_pairsOk K ((N, r) : S_impl_House) = some bp) : g_impl_owningOk K ((N, r) : S_impl_House) = some (ownB r.1 r.2.1 r.2.2.1.length bc bp) := by
  rw [g_impl_owningOk.eq]
  simp only [isIn_eq, c2, p2, Option.bind_some, br_some]
  congr 1
  unfold ownB
  rw [Bool.eq_iff_iff]
  simp only [ite_t, not_t, beq_iff_eq, Bool.and_eq_true, Bool.not_eq_true', decide_eq_true_eq, Bool.false_eq_true]
  cases bc <;> cases bp <;> simp <;> grind
/-- The chain that the reference asks, with an end X. -/
theorem chain_own (H G : Int) (n : Nat) (bc bp X : Bool) : (if (!(decide (1 ≤ H) && decide (H ≤ 60000))) = true then false else if (!(decide (0 ≤ G) && decide (G ≤ 60000))) = true then false else if (G == 0) = true then (if decide ((n : Int) > 0) = true then false else if decide (G > 0) = true then (if (!bc) = true then false else if (!bp) = true then false else X) else (if (!bp) = true then false else X)) else (if decide (G > 0) = true then (if (!bc) = true then false else if (!bp) = true then false else X) else (if (!bp) = true then false else X))) = (if ownB H G n bc bp = true then X else false) := by
  unfold ownB
  rw [Bool.eq_iff_iff]
  simp only [ite_t, not_t, beq_iff_eq, Bool.and_eq_true, Bool.not_eq_true', decide_eq_true_eq, Bool.false_eq_true]
  cases bc <;> cases bp <;> cases X <;> simp <;> grind
theorem house0 {K : Nat} (hK : maxLen + 2 ≤ K) (r : HT) (bc bp : Bool) (l1 : g_spec_l10Lists K ((0, r) : S_impl_House) = some true) (c1 : g_spec_ConfOk K r.2.2.1 = some bc) (c2 : g_impl_ConfOk K r.2.2.1 = some bc) (p1 : g_spec_l10Pairs K ((0, r) : S_impl_House) = some bp) (p2 : g_impl_pairsOk K ((0, r) : S_impl_House) = some bp) (l2 : g_impl_listsOk K ((0, r) : S_impl_House) = some true) :
    ∃ b, g_spec_HouseOk K ((0, r) : S_impl_House) = some b ∧ g_impl_HouseOk K ((0, r) : S_impl_House) = some b := by
  rw [g_impl_HouseOk.eq, l2, Option.bind_some, br_false (c := !true) rfl, owning 0 r bc bp c2 p2, g_spec_HouseOk.eq0, l1]
  simp only [g_spec_l10NoHand.eq, g_impl_SameHouse.eq, conf_nil hK, asks_nil hK, lines_nil hK, eqHand, Option.bind_some, br_some, isIn_eq, since_i, l1In_eq, since_s, c1, p1]
  refine ⟨_, rfl, ?_⟩
  congr 1
  rw [Bool.eq_iff_iff]
  simp only [ite_t, not_t, beq_iff_eq, Bool.and_eq_true, Bool.not_eq_true', decide_eq_true_eq, Bool.false_eq_true]
  generalize ownB r.1 r.2.1 r.2.2.1.length bc bp = w
  cases r.2.2.2.1 <;> cases w <;> simp <;> grind (splits := 30)
theorem house1 {K : Nat} (hK : maxLen + 2 ≤ K) (r : HT) (bc bp : Bool) (l1 : g_spec_l10Lists K ((1, r) : S_impl_House) = some true) (c1 : g_spec_ConfOk K r.2.2.1 = some bc) (c2 : g_impl_ConfOk K r.2.2.1 = some bc) (p1 : g_spec_l10Pairs K ((1, r) : S_impl_House) = some bp) (p2 : g_impl_pairsOk K ((1, r) : S_impl_House) = some bp) (l2 : g_impl_listsOk K ((1, r) : S_impl_House) = some true) :
    ∃ b, g_spec_HouseOk K ((1, r) : S_impl_House) = some b ∧ g_impl_HouseOk K ((1, r) : S_impl_House) = some b := by
  rw [g_impl_HouseOk.eq, l2, Option.bind_some, br_false (c := !true) rfl, owning 1 r bc bp c2 p2, g_spec_HouseOk.eq1, l1]
  simp only [g_spec_l10NoHand.eq, g_impl_SameHouse.eq, conf_nil hK, asks_nil hK, lines_nil hK, eqHand, Option.bind_some, br_some, isIn_eq, since_i, l1In_eq, since_s, c1, p1]
  refine ⟨_, rfl, ?_⟩
  congr 1
  rw [Bool.eq_iff_iff]
  simp only [ite_t, not_t, beq_iff_eq, Bool.and_eq_true, Bool.not_eq_true', decide_eq_true_eq, Bool.false_eq_true]
  generalize ownB r.1 r.2.1 r.2.2.1.length bc bp = w
  cases r.2.2.2.1 <;> cases w <;> simp <;> grind (splits := 30)
theorem house2 {K : Nat} (hK : maxLen + 2 ≤ K) (r : HT) (bc bp : Bool) (l1 : g_spec_l10Lists K ((2, r) : S_impl_House) = some true) (c1 : g_spec_ConfOk K r.2.2.1 = some bc) (c2 : g_impl_ConfOk K r.2.2.1 = some bc) (p1 : g_spec_l10Pairs K ((2, r) : S_impl_House) = some bp) (p2 : g_impl_pairsOk K ((2, r) : S_impl_House) = some bp) (l2 : g_impl_listsOk K ((2, r) : S_impl_House) = some true) :
    ∃ b, g_spec_HouseOk K ((2, r) : S_impl_House) = some b ∧ g_impl_HouseOk K ((2, r) : S_impl_House) = some b := by
  rw [g_impl_HouseOk.eq, l2, Option.bind_some, br_false (c := !true) rfl, owning 2 r bc bp c2 p2, g_spec_HouseOk.eq2, l1]
  simp only [g_spec_l10NoHand.eq, g_impl_SameHouse.eq, conf_nil hK, asks_nil hK, lines_nil hK, eqHand, Option.bind_some, br_some, isIn_eq, since_i, l1In_eq, since_s, c1, p1]
  refine ⟨_, rfl, ?_⟩
  congr 1
  rw [chain_own]
  simp
theorem house3 {K : Nat} (hK : maxLen + 2 ≤ K) (r : HT) (bc bp : Bool) (l1 : g_spec_l10Lists K ((3, r) : S_impl_House) = some true) (c1 : g_spec_ConfOk K r.2.2.1 = some bc) (c2 : g_impl_ConfOk K r.2.2.1 = some bc) (p1 : g_spec_l10Pairs K ((3, r) : S_impl_House) = some bp) (p2 : g_impl_pairsOk K ((3, r) : S_impl_House) = some bp) (l2 : g_impl_listsOk K ((3, r) : S_impl_House) = some true) :
    ∃ b, g_spec_HouseOk K ((3, r) : S_impl_House) = some b ∧ g_impl_HouseOk K ((3, r) : S_impl_House) = some b := by
  rw [g_impl_HouseOk.eq, l2, Option.bind_some, br_false (c := !true) rfl, owning 3 r bc bp c2 p2, g_spec_HouseOk.eq3, l1]
  simp only [g_spec_l10NoHand.eq, g_impl_SameHouse.eq, conf_nil hK, asks_nil hK, lines_nil hK, eqHand, Option.bind_some, br_some, isIn_eq, since_i, l1In_eq, since_s, c1, p1]
  refine ⟨_, rfl, ?_⟩
  congr 1
  rw [chain_own]
  simp
theorem house4 {K : Nat} (hK : maxLen + 2 ≤ K) (r : HT) (bc bp : Bool) (l1 : g_spec_l10Lists K ((4, r) : S_impl_House) = some true) (c1 : g_spec_ConfOk K r.2.2.1 = some bc) (c2 : g_impl_ConfOk K r.2.2.1 = some bc) (p1 : g_spec_l10Pairs K ((4, r) : S_impl_House) = some bp) (p2 : g_impl_pairsOk K ((4, r) : S_impl_House) = some bp) (l2 : g_impl_listsOk K ((4, r) : S_impl_House) = some true) :
    ∃ b, g_spec_HouseOk K ((4, r) : S_impl_House) = some b ∧ g_impl_HouseOk K ((4, r) : S_impl_House) = some b := by
  rw [g_impl_HouseOk.eq, l2, Option.bind_some, br_false (c := !true) rfl, owning 4 r bc bp c2 p2, g_spec_HouseOk.eq4, l1]
  simp only [g_spec_l10NoHand.eq, g_impl_SameHouse.eq, conf_nil hK, asks_nil hK, lines_nil hK, eqHand, Option.bind_some, br_some, isIn_eq, since_i, l1In_eq, since_s, c1, p1]
  refine ⟨_, rfl, ?_⟩
  congr 1
theorem house {K : Nat} (hK : maxLen + 2 ≤ K) (h : S_impl_House) (hs : HS h) : ∃ b, g_spec_HouseOk K h = some b ∧ g_impl_HouseOk K h = some b ∧ (b = true → ListsP K h) := by
  obtain ⟨bl, l1, e1⟩ := lists_s hK h hs
  obtain ⟨bl', l2, e2⟩ := lists_i hK h hs
  have e : bl = bl' := Bool.eq_iff_iff.2 (e1.trans e2.symm)
  subst e
  have hcl := hs.lc
  obtain ⟨bc, c1, c2, _⟩ := confOk hK h.2.2.2.1 (by omega) hs.c1
  cases bl with
  | false =>
    refine ⟨false, ?_, ?_, fun h => by cases h⟩
    · obtain ⟨N, r⟩ := h
      by_cases h0 : N = 0
      · subst h0; rw [g_spec_HouseOk.eq0, l1]; rfl
      by_cases h1 : N = 1
      · subst h1; rw [g_spec_HouseOk.eq1, l1]; rfl
      by_cases h2 : N = 2
      · subst h2; rw [g_spec_HouseOk.eq2, l1]; rfl
      by_cases h3 : N = 3
      · subst h3; rw [g_spec_HouseOk.eq3, l1]; rfl
      by_cases h4 : N = 4
      · subst h4; rw [g_spec_HouseOk.eq4, l1]; rfl
      cases N with
      | ofNat n =>
        obtain ⟨m, rfl⟩ : ∃ m, n = m + 5 := ⟨n - 5, by
          have a0 : n ≠ 0 := fun e => h0 (by rw [e]; rfl)
          have a1 : n ≠ 1 := fun e => h1 (by rw [e]; rfl)
          have a2 : n ≠ 2 := fun e => h2 (by rw [e]; rfl)
          have a3 : n ≠ 3 := fun e => h3 (by rw [e]; rfl)
          have a4 : n ≠ 4 := fun e => h4 (by rw [e]; rfl)
          omega⟩
        rw [g_spec_HouseOk.eq5, l1]; rfl
      | negSucc n => rw [g_spec_HouseOk.eqn, l1]; rfl
    · rw [g_impl_HouseOk.eq, l2]; rfl
  | true =>
    have hl := e1.1 rfl
    obtain ⟨bp, p1, p2⟩ := pairs hK h hs hl
    have key : ∃ b, g_spec_HouseOk K h = some b ∧ g_impl_HouseOk K h = some b := by
      obtain ⟨N, r⟩ := h
      have c1 : g_spec_ConfOk K r.2.2.1 = some bc := c1
      have c2 : g_impl_ConfOk K r.2.2.1 = some bc := c2
      by_cases h0 : N = 0
      · subst h0; exact house0 hK r bc bp l1 c1 c2 p1 p2 l2
      by_cases h1 : N = 1
      · subst h1; exact house1 hK r bc bp l1 c1 c2 p1 p2 l2
      by_cases h2 : N = 2
      · subst h2; exact house2 hK r bc bp l1 c1 c2 p1 p2 l2
      by_cases h3 : N = 3
      · subst h3; exact house3 hK r bc bp l1 c1 c2 p1 p2 l2
      by_cases h4 : N = 4
      · subst h4; exact house4 hK r bc bp l1 c1 c2 p1 p2 l2
      have hsp : g_spec_HouseOk K ((N, r) : S_impl_House) = some false := by
        cases N with
        | ofNat n =>
          obtain ⟨m, rfl⟩ : ∃ m, n = m + 5 := ⟨n - 5, by
            have a0 : n ≠ 0 := fun e => h0 (by rw [e]; rfl)
            have a1 : n ≠ 1 := fun e => h1 (by rw [e]; rfl)
            have a2 : n ≠ 2 := fun e => h2 (by rw [e]; rfl)
            have a3 : n ≠ 3 := fun e => h3 (by rw [e]; rfl)
            have a4 : n ≠ 4 := fun e => h4 (by rw [e]; rfl)
            omega⟩
          rw [g_spec_HouseOk.eq5, l1]; rfl
        | negSucc n => rw [g_spec_HouseOk.eqn, l1]; rfl
      refine ⟨false, hsp, ?_⟩
      rw [g_impl_HouseOk.eq, l2, Option.bind_some, br_false (c := !true) rfl]
      show br ((N : Int) == 0) _ _ = _
      rw [br_false (beq_false h0), br_false (beq_false h1), br_false (beq_false h2), br_false (beq_false h3), br_false (beq_false h4)]
    obtain ⟨b, b1, b2⟩ := key
    exact ⟨b, b1, b2, fun _ => hl⟩
end F5
