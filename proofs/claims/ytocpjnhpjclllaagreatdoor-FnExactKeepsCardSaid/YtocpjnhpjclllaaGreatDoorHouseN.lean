/- WorldOk: both programs say the same. -/
import Derived.Test.YtocpjnhpjclllaaGreatDoorHouseM
namespace F5
set_option linter.unusedSimpArgs false
open Go Go.Fil Go.Proofs Go.Fil.Cf
set_option maxRecDepth 100000
set_option linter.unusedVariables false
theorem Says.guard {c : Bool} {a : Option Bool} {p Q : Prop} (h : c = true ↔ p) (h1 : ¬ p → Says a Q) : Says (Fil.br c (some false) a) (¬ p ∧ Q) := by
  cases c
  · have np : ¬ p := fun hp => by cases h.2 hp
    exact (h1 np).imp ⟨fun q => ⟨np, q⟩, fun q => q.2⟩
  · exact Says.f (fun g => g.1 (h.1 rfl))
theorem conf_len {x : S_impl_World} (hx : WS x) (n : Int) : (houseAt x n).2.2.2.1.length ≤ 1048576 := by
  by_cases h : n.toNat < x.2.2.2.1.length
  · have hm : houseAt x n ∈ x.2.2.2.1 := by
      rw [houseAt, List.getD_eq_getElem?_getD, List.getElem?_eq_getElem h]
      exact List.getElem_mem h
    exact (hx.hs _ hm).lc
  · have e : houseAt x n = T_impl_House.zero := by
      rw [houseAt, List.getD_eq_getElem?_getD, List.getElem?_eq_none (by omega)]
      rfl
    rw [e]
    exact Nat.zero_le _
def Down (x : S_impl_World) : Prop := x.2.1.2.2.2.1 = true → (houseAt x 0).1 = 0 ∧ (houseAt x 1).1 = 0 ∧ x.2.2.1.length = 0 ∧ x.2.2.2.2.1.length = 0
theorem worldOk {K : Nat} (hK : maxLen + 2 ≤ K) (x : S_impl_World) (hx : WS x) : ∃ b, g_spec_WorldOk K x = some b ∧ g_impl_WorldOk K x = some b ∧ (b = true → x.2.2.2.1.length = 2) := by
  obtain ⟨r, r1, r2, r3⟩ := openJour hK x.2.1 hx.db
  obtain ⟨pr, q1, q2, _⟩ := parseConf hK r.1.1.2.1 r3.1
  have hH : ∀ i : Nat, ∃ b, g_spec_SameConf K (houseAt x (i : Int)).2.2.2.1 pr.1 = some b ∧ g_impl_SameConf K (houseAt x (i : Int)).2.2.2.1 pr.1 = some b := fun i => sameConf hK _ pr.1 (conf_len hx _)
  have hb : ∀ i : Nat, g_impl_SameConf K (houseAt x (i : Int)).2.2.2.1 pr.1 = some (Classical.choose (hH i)) := fun i => (Classical.choose_spec (hH i)).2
  have hb' : ∀ i : Nat, g_spec_SameConf K (houseAt x (i : Int)).2.2.2.1 pr.1 = some (Classical.choose (hH i)) := fun i => (Classical.choose_spec (hH i)).1
  let bs : Nat → Bool := fun i => Classical.choose (hH i)
  have hmem : ∀ n : Int, (n = 0 ∨ n = 1) → x.2.2.2.1.length = 2 → HS (houseAt x n) := fun n hn hl => by
    refine hx.hs _ ?_
    rw [houseAt, List.getD_eq_getElem?_getD, List.getElem?_eq_getElem (by omega)]
    exact List.getElem_mem _
  have hl7 : SocksP x.2.2.1 → x.2.2.2.1.length = 2 → Says (L_spec_WorldOk_7 K K 0 x r.1) (IdsP x ∧ NotesP K x ∧ HouP K x r.1.1 0 (bs 0) ∧ HouP K x r.1.1 1 (bs 1)) := fun hp hl =>
    spec7 hK x hx r.1 (house_s hK x hx hp 0 (.inl rfl) hl (hmem 0 (.inl rfl) hl) r.1.1 pr q1 (bs 0) (hb' 0)) (house_s hK x hx hp 1 (.inr rfl) hl (hmem 1 (.inr rfl) hl) r.1.1 pr q1 (bs 1) (hb' 1))
  have hls := hx.ls
  have hlw := hx.lw
  have hlh := hx.lh
  have hopen : (!r.2.1) = true ↔ r.2.1 = false := by cases r.2.1 <;> simp
  have spec : Says (g_spec_WorldOk K x) (¬ r.2.1 = false ∧ (0 ≤ x.1 ∧ x.1 ≤ 100000) ∧ SocksP x.2.2.1 ∧ ¬ (x.2.2.2.1.length ≠ 2) ∧ WayP x.2.2.2.2.1 ∧ ¬ (x.2.2.2.2.2.2.1 < 1) ∧ ¬ (x.2.2.2.2.2.2.2.1 < 1) ∧ Down x ∧ (IdsP x ∧ NotesP K x ∧ HouP K x r.1.1 0 (bs 0) ∧ HouP K x r.1.1 1 (bs 1))) := by
    rw [g_spec_WorldOk.eq, r1, Option.bind_some]
    refine Says.guard hopen (fun _ => Says.gate (says_in K _ _ _) (fun _ => Says.gate (socksOk_s hK _ hx.ls) (fun hp => Says.guard (by rw [bne_iff_ne]; omega) (fun hl => Says.gate (wayOk_s hK _ hx.lw) (fun _ => Says.guard decide_eq_true_iff (fun _ => Says.guard decide_eq_true_iff (fun _ => ?_)))))))
    have hl : x.2.2.2.1.length = 2 := by omega
    have h7 := hl7 hp hl
    unfold Down
    cases hdn : x.2.1.2.2.2.1
    · rw [br_f]
      exact h7.imp ⟨fun g => ⟨fun h => (by cases h), g⟩, fun g => g.2⟩
    · rw [br_t, br_true (by simp [hl])]
      have e1 : Says (br (decide (((x.2.2.2.2.1.length : Nat) : Int) > 0)) (some false) (L_spec_WorldOk_7 K K 0 x r.1)) _ := Says.guard decide_eq_true_iff (fun _ => h7)
      have e2 : Says (br (decide (((x.2.2.1.length : Nat) : Int) > 0)) (some false) (br (decide (((x.2.2.2.2.1.length : Nat) : Int) > 0)) (some false) (L_spec_WorldOk_7 K K 0 x r.1))) _ := Says.guard decide_eq_true_iff (fun _ => e1)
      have e3 : Says (br (((houseAt x 1).1 : Int) != 0) (some false) (br (decide (((x.2.2.1.length : Nat) : Int) > 0)) (some false) (br (decide (((x.2.2.2.2.1.length : Nat) : Int) > 0)) (some false) (L_spec_WorldOk_7 K K 0 x r.1)))) _ := Says.guard bne_iff_ne (fun _ => e2)
      refine (Says.guard (p := (houseAt x 0).1 ≠ 0) (Q := ¬ ((houseAt x 1).1 ≠ 0) ∧ ¬ (((x.2.2.1.length : Nat) : Int) > 0) ∧ ¬ (((x.2.2.2.2.1.length : Nat) : Int) > 0) ∧ (IdsP x ∧ NotesP K x ∧ HouP K x r.1.1 0 (bs 0) ∧ HouP K x r.1.1 1 (bs 1))) bne_iff_ne (fun _ => ?_)).imp ?_
      · rw [br_true (by simp [hl])]
        exact e3
      constructor
      · rintro ⟨a, b, c, d, e⟩
        exact ⟨fun _ => ⟨by omega, by omega, by omega, by omega⟩, e⟩
      · rintro ⟨a, e⟩
        obtain ⟨a1, a2, a3, a4⟩ := a rfl
        exact ⟨by omega, by omega, by omega, by omega, e⟩
  have impl : Says (g_impl_WorldOk K x) (¬ r.2.1 = false ∧ (0 ≤ x.1 ∧ x.1 ≤ 100000) ∧ ¬ (x.2.2.2.2.2.2.1 < 1) ∧ ¬ (x.2.2.2.2.2.2.2.1 < 1) ∧ ¬ (x.2.2.2.1.length ≠ 2) ∧ SocksP x.2.2.1 ∧ WayP x.2.2.2.2.1 ∧ (IdsP x ∧ NotesP K x ∧ (∀ i, i < 2 → HouQ K x r.1.1 bs i) ∧ (x.2.1.2.2.2.1 = true → x.2.2.1.length = 0 ∧ x.2.2.2.2.1.length = 0))) := by
    rw [g_impl_WorldOk.eq, r2, Option.bind_some]
    refine Says.guard hopen (fun _ => Says.gate (says_isIn K _ _ _) (fun _ => Says.guard decide_eq_true_iff (fun _ => Says.guard decide_eq_true_iff (fun _ => Says.guard (by rw [bne_iff_ne]; omega) (fun hl => Says.gate (socksOk_i hK _ hx.ls) (fun hp => Says.gate (wayOk_i hK _ hx.lw) (fun _ => ?_)))))))
    exact impl5 hK x hx r.1 (impl17 hK x hx hp (by omega) r.1 pr q2 bs hb)
  obtain ⟨b, b1, b2⟩ := spec
  obtain ⟨c, c1, c2⟩ := impl
  have e : b = c := by
    refine Bool.eq_iff_iff.2 (b2.trans (Iff.trans ?_ c2.symm))
    constructor
    · rintro ⟨g1, g2, g3, g4, g5, g6, g7, g8, g9, g10, g11, g12⟩
      refine ⟨g1, g2, g6, g7, g4, g3, g5, g9, g10, fun i hi => ?_, fun h => ⟨(g8 h).2.2.1, (g8 h).2.2.2⟩⟩
      have hi' : i = 0 ∨ i = 1 := by omega
      rcases hi' with rfl | rfl
      · exact ⟨g11.1, fun h => (g8 h).1, g11.2.1, g11.2.2⟩
      · exact ⟨g12.1, fun h => (g8 h).2.1, g12.2.1, g12.2.2⟩
    · rintro ⟨g1, g2, g6, g7, g4, g3, g5, g9, g10, g11, g12⟩
      have a0 := g11 0 (by omega)
      have a1 := g11 1 (by omega)
      exact ⟨g1, g2, g3, g4, g5, g6, g7, fun h => ⟨a0.2.1 h, a1.2.1 h, g12 h⟩, g9, g10, ⟨a0.1, a0.2.2.1, a0.2.2.2⟩, ⟨a1.1, a1.2.2.1, a1.2.2.2⟩⟩
  subst e
  exact ⟨b, b1, c1, fun h => by have := (b2.1 h).2.2.2.1; omega⟩
end F5
