/- The world: what the program asks of a house in it; both ask the same. -/
import Derived.Test.YtocpjnhpjclllaaGreatDoorHouseI
namespace F5
set_option linter.unusedSimpArgs false
open Go Go.Fil Go.Proofs Go.Fil.Cf
set_option maxRecDepth 100000
set_option linter.unusedVariables false
def on (n : Int) (s : S_impl_Sock) : Bool := decide (bitv s.2.2.1 n ≠ 0)
def cnt (n : Int) (l : List S_impl_Sock) : Nat := (l.filter (on n)).length
def Takes (x : S_impl_World) (n : Int) (h : S_impl_House) (i : Nat) : Prop := bitv (sockAt x.2.2.1 i).2.2.1 n ≠ 0 → ((sockAt x.2.2.1 i).2.1 = 1 → ∃ j, j < h.2.2.2.2.2.1.length ∧ (akAt h.2.2.2.2.2.1 j).1 = (sockAt x.2.2.1 i).1) ∧ ((sockAt x.2.2.1 i).2.1 = 2 → ∃ j, j < h.2.2.2.2.2.2.1.length ∧ (lnAt h.2.2.2.2.2.2.1 j).1 = (sockAt x.2.2.1 i).1)
abbrev houseAt (x : S_impl_World) (n : Int) : S_impl_House := List.getD x.2.2.2.1 n.toNat T_impl_House.zero
theorem held_run {K : Nat} (hK : maxLen + 2 ≤ K) (x : S_impl_World) (hx : WS x) (n : Int) (hn : n = 0 ∨ n = 1) (hlen : x.2.2.2.1.length = 2) (hs : HS (houseAt x n)) (hkind : ∀ i, i < x.2.2.1.length → (sockAt x.2.2.1 i).2.1 = 1 ∨ (sockAt x.2.2.1 i).2.1 = 2) : ∀ (q i k c : Nat), i + q = x.2.2.1.length → q < k → c ≤ i →
    Says (L_impl_heldOk_3 K k x n (c : Int) (i : Int) x) ((∀ i', i ≤ i' → i' < x.2.2.1.length → Takes x n (houseAt x n) i') ∧ c + cnt n (x.2.2.1.drop i) = (houseAt x n).2.2.2.2.2.1.length + (houseAt x n).2.2.2.2.2.2.1.length)
  | 0, i, k + 1, c, hi, hk, hc => by
    have hls := hx.ls
    have hla := hs.la
    have hll := hs.ll
    have hh : (decide ((0 : Int) ≤ n) && decide (n < ((x.2.2.2.1.length : Nat) : Int))) = true := by simp; omega
    rw [L_impl_heldOk_3.step, br_false (decide_eq_false (by omega)), hh]
    simp only [br_t]
    show Says (some ((c : Int) == IntKind.wrap .i64 ((((houseAt x n).2.2.2.2.2.1.length : Nat) : Int) + (((houseAt x n).2.2.2.2.2.2.1.length : Nat) : Int)))) _
    rw [wrap_id (by omega) (by omega), List.drop_eq_nil_of_le (by omega)]
    refine ⟨_, rfl, ?_⟩
    rw [beq_iff_eq]
    constructor
    · intro e
      exact ⟨fun i' h1 h2 => absurd h2 (by omega), by show c + 0 = _; omega⟩
    · rintro ⟨_, e⟩
      have e : c + 0 = _ := e
      omega
  | q + 1, i, k + 1, c, hi, hk, hc => by
    have hls := hx.ls
    have hlt : i < x.2.2.1.length := by omega
    have hin : (decide (0 ≤ (i : Int)) && decide ((i : Int) < ((x.2.2.1.length : Nat) : Int))) = true := by simp; omega
    have hh : (decide ((0 : Int) ≤ n) && decide (n < ((x.2.2.2.1.length : Nat) : Int))) = true := by simp; omega
    obtain ⟨r, _, r1, r2⟩ := askAt hK (houseAt x n).2.2.2.2.2.1 hs.la (sockAt x.2.2.1 i).1
    obtain ⟨t, _, t1, t2⟩ := lineAt hK (houseAt x n).2.2.2.2.2.2.1 hs.ll (sockAt x.2.2.1 i).1
    have hd : x.2.2.1.drop i = sockAt x.2.2.1 i :: x.2.2.1.drop (i + 1) := by
      rw [List.drop_eq_getElem_cons hlt, sockAt, List.getD_eq_getElem?_getD, List.getElem?_eq_getElem hlt]
      rfl
    have nxt : ∀ c', c' ≤ i + 1 → Takes x n (houseAt x n) i → c' + cnt n (x.2.2.1.drop (i + 1)) = c + cnt n (x.2.2.1.drop i) → Says (L_impl_heldOk_3 K k x n (c' : Int) ((i : Int) + 1) x) ((∀ i', i ≤ i' → i' < x.2.2.1.length → Takes x n (houseAt x n) i') ∧ c + cnt n (x.2.2.1.drop i) = (houseAt x n).2.2.2.2.2.1.length + (houseAt x n).2.2.2.2.2.2.1.length) := by
      intro c' hc' ht he
      have := held_run hK x hx n hn hlen hs hkind q (i + 1) k c' (by omega) (by omega) hc'
      rw [Int.natCast_add] at this
      rw [he] at this
      refine this.imp ⟨fun g => ⟨fun i' h1 h2 => ?_, g.2⟩, fun g => ⟨fun i' h1 h2 => g.1 i' (by omega) h2, g.2⟩⟩
      by_cases e : i' = i
      · subst e; exact ht
      · exact g.1 i' (by omega) h2
    rw [L_impl_heldOk_3.step, br_true (decide_eq_true (by omega)), hin, hh]
    simp only [br_t]
    rw [br_false (c := decide ((n : Int) < 0)) (decide_eq_false (by omega)), show (i : Int).toNat = i by omega, r1, t1]
    simp only [Option.bind_some]
    rw [wrap_id (k := (i : Int) + 1) (by omega) (by omega), wrap_id (k := (c : Int) + 1) (by omega) (by omega)]
    by_cases b0 : bitv (sockAt x.2.2.1 i).2.2.1 n = 0
    · rw [br_true (beq_true b0)]
      refine nxt c (by omega) (fun e => absurd b0 e) ?_
      have hon : on n (sockAt x.2.2.1 i) = false := decide_eq_false (fun g => g b0)
      rw [hd, cnt, cnt, List.filter_cons, hon, if_neg (by simp)]
    · rw [br_false (beq_false b0)]
      have hcnt : (c + 1) + cnt n (x.2.2.1.drop (i + 1)) = c + cnt n (x.2.2.1.drop i) := by
        have hon : on n (sockAt x.2.2.1 i) = true := decide_eq_true b0
        rw [hd, cnt, cnt, List.filter_cons, hon, if_pos rfl, List.length_cons]
        omega
      have go := nxt (c + 1) (by omega)
      rw [Int.natCast_add] at go
      rcases hkind i hlt with k1 | k2
      · rw [br_true (beq_true k1)]
        by_cases hr : r < 0
        · rw [br_true (decide_eq_true hr)]
          exact Says.f (fun g => absurd hr ((found_ex r2).2 ((g.1 i (Nat.le_refl _) hlt b0).1 k1)))
        · rw [br_false (decide_eq_false hr), br_false (c := ((sockAt x.2.2.1 i).2.1 : Int) == 2) (beq_false (by omega))]
          exact go (fun _ => ⟨fun _ => (found_ex r2).1 hr, fun e => by omega⟩) hcnt
      · rw [br_false (c := ((sockAt x.2.2.1 i).2.1 : Int) == 1) (beq_false (by omega)), br_true (beq_true k2)]
        by_cases ht : t < 0
        · rw [br_true (decide_eq_true ht)]
          exact Says.f (fun g => absurd ht ((found_ex t2).2 ((g.1 i (Nat.le_refl _) hlt b0).2 k2)))
        · rw [br_false (decide_eq_false ht)]
          exact go (fun _ => ⟨fun e => by omega, fun _ => (found_ex t2).1 ht⟩) hcnt
  | _, _, 0, _, _, h, _ => absurd h (Nat.not_lt_zero _)
theorem cnt_two (n : Int) : ∀ l : List S_impl_Sock, (∀ s ∈ l, s.2.1 = 1 ∨ s.2.1 = 2) → cnt n l = (l.filter fun s => on n s && (s.2.1 == 1)).length + (l.filter fun s => on n s && (s.2.1 == 2)).length
  | [], _ => rfl
  | s :: l, h => by
    have ih := cnt_two n l (fun t ht => h t (by simp [ht]))
    unfold cnt at ih ⊢
    rcases h s (by simp) with e | e
    · cases hon : on n s <;> simp [List.filter_cons, hon, e, ih] <;> omega
    · cases hon : on n s <;> simp [List.filter_cons, hon, e, ih] <;> omega
theorem mem_at {α : Type} {l : List α} {z : α} {P : α → Prop} : (∃ a ∈ l, P a) ↔ ∃ j, j < l.length ∧ P (l.getD j z) := by
  constructor
  · rintro ⟨a, ha, hp⟩
    obtain ⟨j, hj, rfl⟩ := List.getElem_of_mem ha
    exact ⟨j, hj, by rwa [List.getD_eq_getElem?_getD, List.getElem?_eq_getElem hj]⟩
  · rintro ⟨j, hj, hp⟩
    rw [List.getD_eq_getElem?_getD, List.getElem?_eq_getElem hj] at hp
    exact ⟨l[j], List.getElem_mem hj, hp⟩
end F5
