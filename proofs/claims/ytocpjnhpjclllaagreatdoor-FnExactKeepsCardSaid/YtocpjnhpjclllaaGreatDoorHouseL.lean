/- The world: a house in it, the whole. -/
import Derived.Test.YtocpjnhpjclllaaGreatDoorHouseK
namespace F5
set_option linter.unusedSimpArgs false
open Go Go.Fil Go.Proofs Go.Fil.Cf
set_option maxRecDepth 100000
set_option linter.unusedVariables false
def SerP (x : S_impl_World) (h : S_impl_House) : Prop := (∀ j, j < h.2.2.2.2.2.1.length → (akAt h.2.2.2.2.2.1 j).2.2.2.2.2.2.2.1 < x.2.2.2.2.2.2.2.1) ∧ (∀ j, j < h.2.2.2.2.2.2.1.length → (lnAt h.2.2.2.2.2.2.1 j).2.2.2.2.2.2.1 < x.2.2.2.2.2.2.2.1)
def EndP (kn : S_impl_Known) (n : Int) (h : S_impl_House) (bs : Bool) : Prop := (h.1 = 2 → h.2.1 = kn.2.2.2.2.1 ∧ h.2.2.1 = kn.1 ∧ kn.2.2.2.2.2.1 = n ∧ bs = true) ∧ (h.1 = 3 → h.2.1 ≤ kn.2.2.2.2.1)
theorem owned_i {K : Nat} (hK : maxLen + 2 ≤ K) (x : S_impl_World) (n : Int) (hn : n = 0 ∨ n = 1) (hlen : x.2.2.2.1.length = 2) (hs : HS (houseAt x n)) (kn : S_impl_Known) (r : PC) (hr : g_impl_ParseConf K kn.2.1 = some r) (bs : Bool) (hb : g_impl_SameConf K (houseAt x n).2.2.2.1 r.1 = some bs) : Says (g_impl_ownedOk K x n kn) (SerP x (houseAt x n) ∧ EndP kn n (houseAt x n) bs) := by
  have hla := hs.la
  have hll := hs.ll
  have hin : (decide ((0 : Int) ≤ n) && decide (n < ((x.2.2.2.1.length : Nat) : Int))) = true := by simp; omega
  have hend : Says (br (((houseAt x n).1 : Int) == 2) ((g_impl_ParseConf K kn.2.1).bind fun y_1 => br (((houseAt x n).2.1 : Int) == kn.2.2.2.2.1) (br (((houseAt x n).2.2.1 : Int) == kn.1) (br ((kn.2.2.2.2.2.1 : Int) == n) ((g_impl_SameConf K (houseAt x n).2.2.2.1 y_1.1).bind fun y_2 => some y_2) (some false)) (some false)) (some false)) (br (((houseAt x n).1 : Int) == 3) (some (decide (((houseAt x n).2.1 : Int) ≤ kn.2.2.2.2.1))) (some true))) (EndP kn n (houseAt x n) bs) := by
    rw [hr, Option.bind_some, hb, Option.bind_some]
    simp only [br_some]
    refine ⟨_, rfl, ?_⟩
    unfold EndP
    simp only [ite_t, beq_iff_eq, decide_eq_true_eq, Bool.false_eq_true]
    cases bs <;> grind
  rw [g_impl_ownedOk.eq, hin, br_t]
  have h9 : Says (L_impl_ownedOk_9 K K n 0 x kn (houseAt x n)) ((∀ j, j < (houseAt x n).2.2.2.2.2.2.1.length → (lnAt (houseAt x n).2.2.2.2.2.2.1 j).2.2.2.2.2.2.1 < x.2.2.2.2.2.2.2.1) ∧ EndP kn n (houseAt x n) bs) := by
    refine says_loop0 (L := fun k v => L_impl_ownedOk_9 K k n v x kn (houseAt x n)) hK (n := (houseAt x n).2.2.2.2.2.2.1.length) (by omega) ?_ ?_
    · intro k i hi
      have hin : (decide (0 ≤ (i : Int)) && decide ((i : Int) < (((houseAt x n).2.2.2.2.2.2.1.length : Nat) : Int))) = true := in_true (by omega) (by omega)
      show (_ → L_impl_ownedOk_9 K (k + 1) n (i : Int) x kn (houseAt x n) = _) ∧ (_ → L_impl_ownedOk_9 K (k + 1) n (i : Int) x kn (houseAt x n) = _)
      rw [L_impl_ownedOk_9.step, br_true (decide_eq_true (by omega)), hin, br_t, show (i : Int).toNat = i by omega, wrap_id (k := (i : Int) + 1) (by omega) (by omega)]
      by_cases sr : (lnAt (houseAt x n).2.2.2.2.2.2.1 i).2.2.2.2.2.2.1 < x.2.2.2.2.2.2.2.1
      · rw [br_false]
        rotate_left
        · exact decide_eq_false (fun e => absurd (show (lnAt (houseAt x n).2.2.2.2.2.2.1 i).2.2.2.2.2.2.1 ≥ x.2.2.2.2.2.2.2.1 from e) (by omega))
        exact ⟨fun _ => rfl, fun g => absurd sr g⟩
      · rw [br_true]
        rotate_left
        · exact decide_eq_true (show (lnAt (houseAt x n).2.2.2.2.2.2.1 i).2.2.2.2.2.2.1 ≥ x.2.2.2.2.2.2.2.1 by omega)
        exact ⟨fun g => absurd g sr, fun _ => rfl⟩
    · intro k
      show Says (L_impl_ownedOk_9 K (k + 1) n ((houseAt x n).2.2.2.2.2.2.1.length : Int) x kn (houseAt x n)) _
      rw [L_impl_ownedOk_9.step, br_false (decide_eq_false (by omega))]
      exact hend
  have h3 : Says (L_impl_ownedOk_3 K K x n 0 x kn (houseAt x n)) ((∀ j, j < (houseAt x n).2.2.2.2.2.1.length → (akAt (houseAt x n).2.2.2.2.2.1 j).2.2.2.2.2.2.2.1 < x.2.2.2.2.2.2.2.1) ∧ (∀ j, j < (houseAt x n).2.2.2.2.2.2.1.length → (lnAt (houseAt x n).2.2.2.2.2.2.1 j).2.2.2.2.2.2.1 < x.2.2.2.2.2.2.2.1) ∧ EndP kn n (houseAt x n) bs) := by
    refine says_loop0 (L := fun k v => L_impl_ownedOk_3 K k x n v x kn (houseAt x n)) hK (n := (houseAt x n).2.2.2.2.2.1.length) (by omega) ?_ ?_
    · intro k i hi
      have hlt : decide ((i : Int) < (((houseAt x n).2.2.2.2.2.1.length : Nat) : Int)) = true := decide_eq_true (by omega)
      have hin : (decide (0 ≤ (i : Int)) && decide ((i : Int) < (((houseAt x n).2.2.2.2.2.1.length : Nat) : Int))) = true := in_true (by omega) (by omega)
      show (_ → L_impl_ownedOk_3 K (k + 1) x n (i : Int) x kn (houseAt x n) = _) ∧ (_ → L_impl_ownedOk_3 K (k + 1) x n (i : Int) x kn (houseAt x n) = _)
      rw [L_impl_ownedOk_3.step, br_true hlt, br_true hin, show (i : Int).toNat = i by omega, wrap_id (k := (i : Int) + 1) (by omega) (by omega)]
      by_cases sr : (akAt (houseAt x n).2.2.2.2.2.1 i).2.2.2.2.2.2.2.1 < x.2.2.2.2.2.2.2.1
      · rw [br_false]
        rotate_left
        · exact decide_eq_false (fun e => absurd (show (akAt (houseAt x n).2.2.2.2.2.1 i).2.2.2.2.2.2.2.1 ≥ x.2.2.2.2.2.2.2.1 from e) (by omega))
        exact ⟨fun _ => rfl, fun g => absurd sr g⟩
      · rw [br_true]
        rotate_left
        · exact decide_eq_true (show (akAt (houseAt x n).2.2.2.2.2.1 i).2.2.2.2.2.2.2.1 ≥ x.2.2.2.2.2.2.2.1 by omega)
        exact ⟨fun g => absurd g sr, fun _ => rfl⟩
    · intro k
      show Says (L_impl_ownedOk_3 K (k + 1) x n ((houseAt x n).2.2.2.2.2.1.length : Int) x kn (houseAt x n)) _
      have hlt : decide ((((houseAt x n).2.2.2.2.2.1.length : Nat) : Int) < (((houseAt x n).2.2.2.2.2.1.length : Nat) : Int)) = false := decide_eq_false (by omega)
      rw [L_impl_ownedOk_3.step, br_false hlt]
      exact h9
  exact h3.imp ⟨fun g => ⟨⟨g.1, g.2.1⟩, g.2.2⟩, fun g => ⟨g.1.1, g.1.2, g.2⟩⟩
/-- What holds of house n. -/
def HouP (K : Nat) (x : S_impl_World) (kn : S_impl_Known) (n : Int) (bs : Bool) : Prop := g_spec_HouseOk K (houseAt x n) = some true ∧ (SerP x (houseAt x n) ∧ EndP kn n (houseAt x n) bs) ∧ HeldP x n (houseAt x n)
theorem house_s {K : Nat} (hK : maxLen + 2 ≤ K) (x : S_impl_World) (hx : WS x) (hp : SocksP x.2.2.1) (n : Int) (hn : n = 0 ∨ n = 1) (hlen : x.2.2.2.1.length = 2) (hs : HS (houseAt x n)) (kn : S_impl_Known) (r : PC) (hr : g_spec_ParseConf K kn.2.1 = some r) (bs : Bool) (hb : g_spec_SameConf K (houseAt x n).2.2.2.1 r.1 = some bs) : Says (g_spec_l14House K x n kn) (HouP K x kn n bs) := by
  have hin : (decide ((0 : Int) ≤ n) && decide (n < ((x.2.2.2.1.length : Nat) : Int))) = true := by simp; omega
  obtain ⟨b, b1, b2, b3⟩ := house hK (houseAt x n) hs
  have h7 := loop7 hK x hx hp n hn (houseAt x n) hs
  rw [g_spec_l14House.eq, hin, br_t, b1, Option.bind_some, g_spec_l14Conf.eq, hr, Option.bind_some, Option.bind_some, hb, Option.bind_some]
  unfold HouP
  rw [b1]
  cases b with
  | false => exact Says.f (fun g => by cases g.1)
  | true =>
    have hl := b3 rfl
    rw [br_false (c := !true) rfl]
    have conv : (SerP x (houseAt x n) ∧ HeldP x n (houseAt x n)) ↔ InP x n (houseAt x n) := by
      rw [← same_held (K := K) x hp n hn (houseAt x n) hl]
      constructor
      · rintro ⟨⟨a, b⟩, c, d, e⟩
        exact ⟨fun j hj => ⟨c j hj, a j hj⟩, fun j hj => ⟨d j hj, b j hj⟩, e, trivial⟩
      · rintro ⟨a, b, c, _⟩
        exact ⟨⟨fun j hj => (a j hj).2, fun j hj => (b j hj).2⟩, fun j hj => (a j hj).1, fun j hj => (b j hj).1, c⟩
    have fin : ∀ o : Option Bool, Says o (EndP kn n (houseAt x n) bs ∧ InP x n (houseAt x n)) → Says o (some true = some true ∧ (SerP x (houseAt x n) ∧ EndP kn n (houseAt x n) bs) ∧ HeldP x n (houseAt x n)) := fun o h => h.imp ⟨fun g => ⟨rfl, ⟨(conv.2 g.2).1, g.1⟩, (conv.2 g.2).2⟩, fun g => ⟨g.2.1.2, conv.1 ⟨g.2.1.1, g.2.2⟩⟩⟩
    refine fin _ ?_
    unfold EndP
    have h3 : ∀ o : Option Bool, o = L_spec_l14House_7 K K n 0 x (houseAt x n) → (houseAt x n).1 ≠ 2 → Says (br (((houseAt x n).1 : Int) == 3) (br (decide (((houseAt x n).2.1 : Int) > kn.2.2.2.2.1)) (some false) o) o) ((((houseAt x n).1 = 2 → (houseAt x n).2.1 = kn.2.2.2.2.1 ∧ (houseAt x n).2.2.1 = kn.1 ∧ kn.2.2.2.2.2.1 = n ∧ bs = true) ∧ ((houseAt x n).1 = 3 → (houseAt x n).2.1 ≤ kn.2.2.2.2.1)) ∧ InP x n (houseAt x n)) := by
      rintro o rfl hne
      by_cases s3 : (houseAt x n).1 = 3
      · rw [br_true (beq_true s3)]
        by_cases g : (houseAt x n).2.1 > kn.2.2.2.2.1
        · rw [br_true (decide_eq_true g)]
          exact Says.f (fun e => by have := e.1.2 s3; omega)
        · rw [br_false (decide_eq_false g)]
          exact h7.imp ⟨fun e => ⟨⟨fun f => absurd f hne, fun _ => by omega⟩, e⟩, fun e => e.2⟩
      · rw [br_false (beq_false s3)]
        exact h7.imp ⟨fun e => ⟨⟨fun f => absurd f hne, fun f => absurd f s3⟩, e⟩, fun e => e.2⟩
    by_cases s2 : (houseAt x n).1 = 2
    · rw [br_true (beq_true s2)]
      by_cases a1 : (houseAt x n).2.1 = kn.2.2.2.2.1
      · rw [br_false (bne_false a1)]
        by_cases a2 : kn.2.2.2.2.2.1 = n
        · rw [br_false (bne_false a2)]
          by_cases a3 : (houseAt x n).2.2.1 = kn.1
          · rw [br_false (bne_false a3)]
            cases bs with
            | false => exact Says.f (fun e => by have := (e.1.1 s2).2.2.2; cases this)
            | true =>
              rw [br_false (c := !true) rfl, br_false (c := ((houseAt x n).1 : Int) == 3) (beq_false (by omega))]
              exact h7.imp ⟨fun e => ⟨⟨fun _ => ⟨a1, a3, a2, rfl⟩, fun f => by omega⟩, e⟩, fun e => e.2⟩
          · rw [br_true (bne_true a3)]
            exact Says.f (fun e => a3 (e.1.1 s2).2.1)
        · rw [br_true (bne_true a2)]
          exact Says.f (fun e => a2 (e.1.1 s2).2.2.1)
      · rw [br_true (bne_true a1)]
        exact Says.f (fun e => a1 (e.1.1 s2).1)
    · rw [br_false (beq_false s2)]
      exact h3 _ rfl s2
end F5
