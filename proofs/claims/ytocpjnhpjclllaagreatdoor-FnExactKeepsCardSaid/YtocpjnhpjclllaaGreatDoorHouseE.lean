/- The house: the lists are alike in both; the pairs. -/
import Derived.Test.YtocpjnhpjclllaaGreatDoorHouseD
namespace F5
set_option linter.unusedSimpArgs false
open Go Go.Fil Go.Proofs Go.Fil.Cf
set_option maxRecDepth 100000
set_option linter.unusedVariables false
theorem index_run {K : Nat} (l : List Int) (hl : l.length ≤ 2000000) (n : Int) : ∀ (q i k : Nat), i + q = l.length → q < k → (∀ j, j < i → l[j]? ≠ some n) → ∃ r : Int, L_slices_Index_S_int_2 K k l n (i : Int) = some r ∧ (0 ≤ r ↔ n ∈ l)
  | 0, i, k + 1, hi, hk, hb => by
    rw [L_slices_Index_S_int_2.step, br_false (decide_eq_false (by omega))]
    refine ⟨-1, rfl, ⟨fun h => absurd h (by omega), fun h => ?_⟩⟩
    obtain ⟨j, hj, e⟩ := List.getElem_of_mem h
    exact absurd (by rw [List.getElem?_eq_getElem hj, e]) (hb j (by omega))
  | q + 1, i, k + 1, hi, hk, hb => by
    have hlt : i < l.length := by omega
    have hat : List.getD l i 0 = l[i] := by rw [List.getD_eq_getElem?_getD, List.getElem?_eq_getElem hlt]; rfl
    rw [L_slices_Index_S_int_2.step, br_true (decide_eq_true (by omega)), br_true (by simp; omega), show (i : Int).toNat = i by omega, wrap_id (k := (i : Int) + 1) (by omega) (by omega), hat]
    by_cases e : n = l[i]
    · rw [br_true (beq_true e)]
      exact ⟨_, rfl, ⟨fun _ => e ▸ List.getElem_mem hlt, fun _ => by omega⟩⟩
    · rw [br_false (beq_false e)]
      have := index_run (K := K) l hl n q (i + 1) k (by omega) (by omega) (fun j hj => by
        by_cases ej : j = i
        · subst ej
          rw [List.getElem?_eq_getElem hlt]
          exact fun h => e (Option.some.inj h).symm
        · exact hb j (by omega))
      rwa [Int.natCast_add] at this
  | _, _, 0, _, h, _ => absurd h (Nat.not_lt_zero _)
theorem contains {K : Nat} (hK : maxLen + 2 ≤ K) (l : List Int) (hl : l.length ≤ 2000000) (n : Int) : Says (g_slices_Contains_S_int K l n) (n ∈ l) := by
  have hm : maxLen = 2 ^ 63 - 1 := rfl
  obtain ⟨r, r1, r2⟩ := index_run (K := K) l hl n l.length 0 K (by omega) (by omega) (fun j hj => absurd hj (by omega))
  have e : g_slices_Index_S_int K l n = some r := by rw [g_slices_Index_S_int.eq]; exact r1
  rw [g_slices_Contains_S_int.eq, e, Option.bind_some]
  exact Says.d.imp r2
def Seen (h : S_impl_House) (i : Nat) (o : List Int) : Prop := o.length ≤ i ∧ ∀ x, x ∈ o ↔ ∃ j', j' < i ∧ (akAt h.2.2.2.2.2.1 j').2.2.1 = 2 ∧ (akAt h.2.2.2.2.2.1 j').2.2.2.1 = x
theorem Seen.skip {h : S_impl_House} {i : Nat} {o : List Int} (hs : Seen h i o) (s : (akAt h.2.2.2.2.2.1 i).2.2.1 ≠ 2) : Seen h (i + 1) o := by
  refine ⟨by have := hs.1; omega, fun x => (hs.2 x).trans ⟨?_, ?_⟩⟩
  · rintro ⟨j', h1, h2, h3⟩
    exact ⟨j', by omega, h2, h3⟩
  · rintro ⟨j', h1, h2, h3⟩
    by_cases e : j' = i
    · subst e; exact absurd h2 s
    · exact ⟨j', by omega, h2, h3⟩
theorem Seen.put {h : S_impl_House} {i : Nat} {o : List Int} (hs : Seen h i o) (s : (akAt h.2.2.2.2.2.1 i).2.2.1 = 2) : Seen h (i + 1) (o ++ [(akAt h.2.2.2.2.2.1 i).2.2.2.1]) := by
  refine ⟨by have := hs.1; simp; omega, fun x => ?_⟩
  rw [List.mem_append, List.mem_singleton, hs.2 x]
  constructor
  · rintro (⟨j', h1, h2, h3⟩ | h)
    · exact ⟨j', by omega, h2, h3⟩
    · exact ⟨i, by omega, s, h.symm⟩
  · rintro ⟨j', h1, h2, h3⟩
    by_cases e : j' = i
    · subst e; exact .inr h3.symm
    · exact .inl ⟨j', by omega, h2, h3⟩
theorem asks_i {K : Nat} (hK : maxLen + 2 ≤ K) (h : S_impl_House) (hs : HS h) {R : Prop} (tail : Says (L_impl_listsOk_15 K K 0 h) R) : ∀ (q i k : Nat) (o : List Int), i + q = h.2.2.2.2.2.1.length → q < k → Seen h i o →
    Says (L_impl_listsOk_5 K k h (i : Int) h o) ((∀ j, i ≤ j → j < h.2.2.2.2.2.1.length → AkP K h j) ∧ R)
  | 0, i, k + 1, o, hi, hk, ho => by
    rw [L_impl_listsOk_5.step, br_false (decide_eq_false (by omega))]
    exact tail.imp ⟨fun g => ⟨fun j h1 h2 => absurd h2 (by omega), g⟩, fun g => g.2⟩
  | q + 1, i, k + 1, o, hi, hk, ho => by
    have hla := hs.la
    have hol := ho.1
    have hlt : i < h.2.2.2.2.2.1.length := by omega
    have hin : (decide (0 ≤ (i : Int)) && decide ((i : Int) < ((h.2.2.2.2.2.1.length : Nat) : Int))) = true := by simp; omega
    have hA := askOk_i hK (akAt h.2.2.2.2.2.1 i) (hs.a1 _ (akAt_mem hlt)) (hs.a2 _ (akAt_mem hlt))
    have ih := fun o' ho' => asks_i hK h hs tail q (i + 1) k o' (by omega) (by omega) ho'
    rw [Int.natCast_add] at ih
    obtain ⟨r, _, r1, r2⟩ := lineAt hK h.2.2.2.2.2.2.1 hs.ll (akAt h.2.2.2.2.2.1 i).1
    have hc := contains hK o (by omega) (akAt h.2.2.2.2.2.1 i).2.2.2.1
    have rest : Says ((some r).bind fun y => br (decide ((y : Int) ≥ 0)) (some false) (br (((akAt h.2.2.2.2.2.1 i).2.2.1 : Int) == 2) (br (decide ((akAt h.2.2.2.2.2.1 i).2.2.2.1 ≥ h.2.2.2.2.2.2.2.1)) (some false) ((g_slices_Contains_S_int K o (akAt h.2.2.2.2.2.1 i).2.2.2.1).bind fun y4 => br y4 (some false) (br (decide ((o.length + [(akAt h.2.2.2.2.2.1 i).2.2.2.1].length) * 8 ≤ 140737488355328)) (L_impl_listsOk_5 K k h ((i : Int) + 1) h (o ++ [(akAt h.2.2.2.2.2.1 i).2.2.2.1])) none))) (L_impl_listsOk_5 K k h ((i : Int) + 1) h o))) ((A2 K h i ∧ A3 K h i) ∧ (∀ j, i + 1 ≤ j → j < h.2.2.2.2.2.1.length → AkP K h j) ∧ R) := by
      rw [Option.bind_some]
      refine Says.br (fun c => Says.f (fun g => ?_)) (fun c => ?_)
      · have := (found_neg r2).2 g.1.1
        have c := of_decide_eq_true c
        omega
      · have c := of_decide_eq_false c
        have a2 : A2 K h i := (found_neg r2).1 (by omega)
        refine Says.br (fun c2 => ?_) (fun c2 => ?_)
        · have s2 : (akAt h.2.2.2.2.2.1 i).2.2.1 = 2 := by simpa using c2
          refine Says.br (fun c3 => Says.f (fun g => ?_)) (fun c3 => ?_)
          · have c3 := of_decide_eq_true c3
            have := (g.1.2 s2).1
            omega
          · have c3 := of_decide_eq_false c3
            refine hc.bind (fun hmem => ?_) (fun hmem => ?_)
            · refine Says.f (fun g => ?_)
              obtain ⟨j', h1, h2, h3⟩ := (ho.2 _).1 hmem
              exact (g.1.2 s2).2 j' h1 h2 h3
            · show Says (br false _ _) _
              rw [br_f, br_true (decide_eq_true (by simp; omega))]
              refine (ih _ (ho.put s2)).imp ⟨fun g => ⟨⟨a2, fun _ => ⟨by omega, fun j' hj' hs' he => hmem ((ho.2 _).2 ⟨j', hj', hs', he⟩)⟩⟩, g⟩, fun g => g.2⟩
        · have s2 : (akAt h.2.2.2.2.2.1 i).2.2.1 ≠ 2 := by simpa using c2
          exact (ih _ (ho.skip s2)).imp ⟨fun g => ⟨⟨a2, fun e => absurd e s2⟩, g⟩, fun g => g.2⟩
    rw [L_impl_listsOk_5.step, br_true (decide_eq_true (by omega)), hin, br_t, show (i : Int).toNat = i by omega, wrap_id (k := (i : Int) + 1) (by omega) (by omega), wrap_id (k := (i : Int) - 1) (by omega) (by omega), r1, AkP_next hlt]
    have fin : ∀ X : Option Bool, Says X ((A2 K h i ∧ A3 K h i) ∧ (∀ j, i + 1 ≤ j → j < h.2.2.2.2.2.1.length → AkP K h j) ∧ R) → Says (br (decide ((i : Int) > 0)) (br (decide (0 ≤ (i : Int) - 1) && decide ((i : Int) - 1 < ((h.2.2.2.2.2.1.length : Nat) : Int))) (br (decide ((akAt h.2.2.2.2.2.1 i).1 ≤ (akAt h.2.2.2.2.2.1 ((i : Int) - 1).toNat).1)) (some false) X) none) X) (A1 K h i ∧ (A2 K h i ∧ A3 K h i) ∧ (∀ j, i + 1 ≤ j → j < h.2.2.2.2.2.1.length → AkP K h j) ∧ R) := by
      intro X rest
      refine Says.br (fun c => ?_) (fun c => ?_)
      · have c := of_decide_eq_true c
        rw [br_true (by simp; omega), show ((i : Int) - 1).toNat = i - 1 by omega]
        refine Says.br (fun c2 => Says.f (fun g => ?_)) (fun c2 => ?_)
        · have c2 := of_decide_eq_true c2
          have := g.1 (by omega)
          omega
        · have c2 := of_decide_eq_false c2
          exact rest.imp ⟨fun g => ⟨fun _ => by omega, g⟩, fun g => g.2⟩
      · have c := of_decide_eq_false c
        exact rest.imp ⟨fun g => ⟨fun e => absurd e (by omega), g⟩, fun g => g.2⟩
    refine (Says.gate hA (fun _ => fin _ rest)).imp ?_
    constructor
    · rintro ⟨g0, g1, ⟨g2, g3⟩, g4, g5⟩
      exact ⟨⟨⟨g0, g1, g2, g3⟩, g4⟩, g5⟩
    · rintro ⟨⟨⟨g0, g1, g2, g3⟩, g4⟩, g5⟩
      exact ⟨g0, g1, ⟨g2, g3⟩, g4, g5⟩
  | _, _, 0, _, _, h, _ => absurd h (Nat.not_lt_zero _)
def ListsP (K : Nat) (h : S_impl_House) : Prop := (∀ j, j < h.2.2.2.2.2.1.length → AkP K h j) ∧ (∀ j, j < h.2.2.2.2.2.2.1.length → LnP K h j) ∧ HTail h
theorem lists_s {K : Nat} (hK : maxLen + 2 ≤ K) (h : S_impl_House) (hs : HS h) : Says (g_spec_l10Lists K h) (ListsP K h) := by
  have hm : maxLen = 2 ^ 63 - 1 := rfl
  have hla := hs.la
  rw [g_spec_l10Lists.eq]
  have := asks_s hK h hs (lines_s hK h hs) h.2.2.2.2.2.1.length 0 K (by omega) (by omega)
  exact this.imp ⟨fun g => ⟨fun j hj => g.1 j (by omega) hj, g.2⟩, fun g => ⟨fun j _ hj => g.1 j hj, g.2⟩⟩
theorem lists_i {K : Nat} (hK : maxLen + 2 ≤ K) (h : S_impl_House) (hs : HS h) : Says (g_impl_listsOk K h) (ListsP K h) := by
  have hm : maxLen = 2 ^ 63 - 1 := rfl
  have hla := hs.la
  rw [g_impl_listsOk.eq]
  refine Says.br (fun c => Says.f (fun g => ?_)) (fun c => Says.br (fun c2 => Says.f (fun g => ?_)) (fun c2 => ?_))
  · have c := of_decide_eq_true c
    have := g.2.2.1
    omega
  · have c2 := of_decide_eq_true c2
    have := g.2.2.2.1
    omega
  · have c := of_decide_eq_false c
    have c2 := of_decide_eq_false c2
    have hw : Says (g_impl_wordOk K h.2.2.2.2.2.2.2.1) (0 ≤ h.2.2.2.2.2.2.2.1 ∧ h.2.2.2.2.2.2.2.1 ≤ 65535) := by
      rw [wordI]
      exact ⟨_, rfl, by simp⟩
    have := asks_i hK h hs (lines_i hK h hs) h.2.2.2.2.2.1.length 0 K [] (by omega) (by omega) ⟨by simp, fun x => ⟨fun h => absurd h (by simp), fun ⟨j', h1, _⟩ => absurd h1 (by omega)⟩⟩
    refine (Says.gate hw (fun _ => this)).imp ?_
    constructor
    · rintro ⟨g0, g1, g2, _⟩
      exact ⟨fun j hj => g1 j (by omega) hj, g2, by omega, by omega, g0⟩
    · rintro ⟨g1, g2, _, _, g0⟩
      exact ⟨g0, fun j _ hj => g1 j hj, g2, trivial⟩
end F5
