/- The world: what each program asks of a house in it. -/
import Derived.Test.YtocpjnhpjclllaaGreatDoorHouseH
namespace F5
set_option linter.unusedSimpArgs false
open Go Go.Fil Go.Proofs Go.Fil.Cf
set_option maxRecDepth 100000
set_option linter.unusedVariables false
def AskIn (x : S_impl_World) (n : Int) (h : S_impl_House) (j : Nat) : Prop := Held x n 1 (akAt h.2.2.2.2.2.1 j).1 ∧ (akAt h.2.2.2.2.2.1 j).2.2.2.2.2.2.2.1 < x.2.2.2.2.2.2.2.1
def LineIn (x : S_impl_World) (n : Int) (h : S_impl_House) (j : Nat) : Prop := Held x n 2 (lnAt h.2.2.2.2.2.2.1 j).1 ∧ (lnAt h.2.2.2.2.2.2.1 j).2.2.2.2.2.2.1 < x.2.2.2.2.2.2.2.1
def SockIn (x : S_impl_World) (n : Int) (h : S_impl_House) (i : Nat) : Prop := bitv (sockAt x.2.2.1 i).2.2.1 n = 1 → (∃ j, j < h.2.2.2.2.2.1.length ∧ (akAt h.2.2.2.2.2.1 j).1 = (sockAt x.2.2.1 i).1) ∨ (∃ j, j < h.2.2.2.2.2.2.1.length ∧ (lnAt h.2.2.2.2.2.2.1 j).1 = (sockAt x.2.2.1 i).1)
theorem found_ex {m : Nat} {id : Nat → Int} {n r : Int} (h : Found m id n r) : ¬ r < 0 ↔ ∃ j, j < m ∧ id j = n := by
  rw [found_neg h]
  constructor
  · intro g
    apply Classical.byContradiction
    intro hn
    exact g (fun j hj e => hn ⟨j, hj, e⟩)
  · rintro ⟨j, hj, e⟩ g
    exact g j hj e
theorem loop19 {K : Nat} (hK : maxLen + 2 ≤ K) (x : S_impl_World) (hx : WS x) (n : Int) (hn : n = 0 ∨ n = 1) (h : S_impl_House) (hs : HS h) : Says (L_spec_l14House_19 K K n 0 x h) ((∀ i, i < x.2.2.1.length → SockIn x n h i) ∧ True) := by
  have hls := hx.ls
  refine says_loop0 (L := fun k v => L_spec_l14House_19 K k n v x h) hK (n := x.2.2.1.length) (by omega) (P := SockIn x n h) ?_ ?_
  · intro k i hi
    have hin : (decide (0 ≤ (i : Int)) && decide ((i : Int) < ((x.2.2.1.length : Nat) : Int))) = true := by simp; omega
    obtain ⟨r, r1, _, r2⟩ := askAt hK h.2.2.2.2.2.1 hs.la (sockAt x.2.2.1 i).1
    obtain ⟨t, t1, _, t2⟩ := lineAt hK h.2.2.2.2.2.2.1 hs.ll (sockAt x.2.2.1 i).1
    show (_ → L_spec_l14House_19 K (k + 1) n (i : Int) x h = _) ∧ (_ → L_spec_l14House_19 K (k + 1) n (i : Int) x h = _)
    rw [L_spec_l14House_19.step, br_true (decide_eq_true (by omega)), hin]
    simp only [br_t]
    rw [br_false (c := decide ((n : Int) < 0)) (decide_eq_false (by omega)), show (i : Int).toNat = i by omega, r1, t1]
    simp only [Option.bind_some]
    rw [wrap_id (k := (i : Int) + 1) (by omega) (by omega)]
    unfold SockIn
    by_cases b1 : bitv (sockAt x.2.2.1 i).2.2.1 n = 1
    · rw [br_true (beq_true b1)]
      by_cases hr : r < 0
      · rw [br_true (decide_eq_true hr)]
        by_cases ht : t < 0
        · rw [br_true (decide_eq_true ht)]
          exact ⟨fun g => (g b1).elim (fun e => absurd hr ((found_ex r2).2 e)) (fun e => absurd ht ((found_ex t2).2 e)), fun _ => rfl⟩
        · rw [br_false (decide_eq_false ht)]
          exact ⟨fun _ => rfl, fun g => absurd (fun _ => .inr ((found_ex t2).1 ht)) g⟩
      · rw [br_false (decide_eq_false hr)]
        exact ⟨fun _ => rfl, fun g => absurd (fun _ => .inl ((found_ex r2).1 hr)) g⟩
    · rw [br_false (beq_false b1)]
      exact ⟨fun _ => rfl, fun g => absurd (fun e => absurd e b1) g⟩
  · intro k
    show Says (L_spec_l14House_19 K (k + 1) n (x.2.2.1.length : Int) x h) _
    rw [L_spec_l14House_19.step, br_false (decide_eq_false (by omega))]
    exact Says.t trivial
theorem loop13 {K : Nat} (hK : maxLen + 2 ≤ K) (x : S_impl_World) (hx : WS x) (hp : SocksP x.2.2.1) (n : Int) (hn : n = 0 ∨ n = 1) (h : S_impl_House) (hs : HS h) : Says (L_spec_l14House_13 K K n 0 x h) ((∀ j, j < h.2.2.2.2.2.2.1.length → LineIn x n h j) ∧ (∀ i, i < x.2.2.1.length → SockIn x n h i) ∧ True) := by
  have hls := hx.ls
  have hll := hs.ll
  refine says_loop0 (L := fun k v => L_spec_l14House_13 K k n v x h) hK (n := h.2.2.2.2.2.2.1.length) (by omega) (P := LineIn x n h) ?_ ?_
  · intro k j hj
    have hin : (decide (0 ≤ (j : Int)) && decide ((j : Int) < ((h.2.2.2.2.2.2.1.length : Nat) : Int))) = true := by simp; omega
    obtain ⟨r, r1, r2⟩ := sockAt_s hK x.2.2.1 hx.ls (lnAt h.2.2.2.2.2.2.1 j).1
    have hh := found_held (n := n) (c := 2) hp r2
    show (_ → L_spec_l14House_13 K (k + 1) n (j : Int) x h = _) ∧ (_ → L_spec_l14House_13 K (k + 1) n (j : Int) x h = _)
    rw [L_spec_l14House_13.step, br_true (decide_eq_true (by omega)), hin]
    simp only [br_t]
    rw [show (j : Int).toNat = j by omega, r1]
    simp only [Option.bind_some]
    rw [br_false (c := decide ((n : Int) < 0)) (decide_eq_false (by omega)), wrap_id (k := (j : Int) + 1) (by omega) (by omega)]
    unfold LineIn
    by_cases hr : r < 0
    · rw [br_true (decide_eq_true hr)]
      exact ⟨fun g => absurd (hh.1 g.1).1 (by omega), fun _ => rfl⟩
    · have hrin : (decide (0 ≤ r) && decide (r < ((x.2.2.1.length : Nat) : Int))) = true := by
        rcases r2 with ⟨g, _⟩ | ⟨i, i1, rfl, _⟩
        · omega
        · simp; omega
      rw [br_false (decide_eq_false hr), hrin]
      simp only [br_t]
      by_cases c2 : (sockAt x.2.2.1 r.toNat).2.1 = 2
      · rw [br_false (bne_false c2)]
        by_cases b0 : bitv (sockAt x.2.2.1 r.toNat).2.2.1 n = 0
        · rw [br_true (beq_true b0)]
          exact ⟨fun g => absurd b0 (hh.1 g.1).2.2, fun _ => rfl⟩
        · rw [br_false (beq_false b0)]
          by_cases sr : (lnAt h.2.2.2.2.2.2.1 j).2.2.2.2.2.2.1 < x.2.2.2.2.2.2.2.1
          · rw [br_false]
            rotate_left
            · exact decide_eq_false (fun e => absurd (show (lnAt h.2.2.2.2.2.2.1 j).2.2.2.2.2.2.1 ≥ x.2.2.2.2.2.2.2.1 from e) (by omega))
            exact ⟨fun _ => rfl, fun g => absurd ⟨hh.2 ⟨by omega, c2, b0⟩, sr⟩ g⟩
          · rw [br_true]
            rotate_left
            · exact decide_eq_true (show (lnAt h.2.2.2.2.2.2.1 j).2.2.2.2.2.2.1 ≥ x.2.2.2.2.2.2.2.1 by omega)
            exact ⟨fun g => absurd g.2 sr, fun _ => rfl⟩
      · rw [br_true (bne_true c2)]
        exact ⟨fun g => absurd (hh.1 g.1).2.1 c2, fun _ => rfl⟩
  · intro k
    show Says (L_spec_l14House_13 K (k + 1) n (h.2.2.2.2.2.2.1.length : Int) x h) _
    rw [L_spec_l14House_13.step, br_false (decide_eq_false (by omega))]
    exact loop19 hK x hx n hn h hs
def InP (x : S_impl_World) (n : Int) (h : S_impl_House) : Prop := (∀ j, j < h.2.2.2.2.2.1.length → AskIn x n h j) ∧ (∀ j, j < h.2.2.2.2.2.2.1.length → LineIn x n h j) ∧ (∀ i, i < x.2.2.1.length → SockIn x n h i) ∧ True
theorem loop7 {K : Nat} (hK : maxLen + 2 ≤ K) (x : S_impl_World) (hx : WS x) (hp : SocksP x.2.2.1) (n : Int) (hn : n = 0 ∨ n = 1) (h : S_impl_House) (hs : HS h) : Says (L_spec_l14House_7 K K n 0 x h) (InP x n h) := by
  have hls := hx.ls
  have hla := hs.la
  refine says_loop0 (L := fun k v => L_spec_l14House_7 K k n v x h) hK (n := h.2.2.2.2.2.1.length) (by omega) (P := AskIn x n h) ?_ ?_
  · intro k j hj
    have hin : (decide (0 ≤ (j : Int)) && decide ((j : Int) < ((h.2.2.2.2.2.1.length : Nat) : Int))) = true := by simp; omega
    obtain ⟨r, r1, r2⟩ := sockAt_s hK x.2.2.1 hx.ls (akAt h.2.2.2.2.2.1 j).1
    have hh := found_held (n := n) (c := 1) hp r2
    show (_ → L_spec_l14House_7 K (k + 1) n (j : Int) x h = _) ∧ (_ → L_spec_l14House_7 K (k + 1) n (j : Int) x h = _)
    rw [L_spec_l14House_7.step, br_true (decide_eq_true (by omega)), hin]
    simp only [br_t]
    rw [show (j : Int).toNat = j by omega, r1]
    simp only [Option.bind_some]
    rw [br_false (c := decide ((n : Int) < 0)) (decide_eq_false (by omega)), wrap_id (k := (j : Int) + 1) (by omega) (by omega)]
    unfold AskIn
    by_cases hr : r < 0
    · rw [br_true (decide_eq_true hr)]
      exact ⟨fun g => absurd (hh.1 g.1).1 (by omega), fun _ => rfl⟩
    · have hrin : (decide (0 ≤ r) && decide (r < ((x.2.2.1.length : Nat) : Int))) = true := by
        rcases r2 with ⟨g, _⟩ | ⟨i, i1, rfl, _⟩
        · omega
        · simp; omega
      rw [br_false (decide_eq_false hr), hrin]
      simp only [br_t]
      by_cases c2 : (sockAt x.2.2.1 r.toNat).2.1 = 1
      · rw [br_false (bne_false c2)]
        by_cases b0 : bitv (sockAt x.2.2.1 r.toNat).2.2.1 n = 0
        · rw [br_true (beq_true b0)]
          exact ⟨fun g => absurd b0 (hh.1 g.1).2.2, fun _ => rfl⟩
        · rw [br_false (beq_false b0)]
          by_cases sr : (akAt h.2.2.2.2.2.1 j).2.2.2.2.2.2.2.1 < x.2.2.2.2.2.2.2.1
          · rw [br_false]
            rotate_left
            · exact decide_eq_false (fun e => absurd (show (akAt h.2.2.2.2.2.1 j).2.2.2.2.2.2.2.1 ≥ x.2.2.2.2.2.2.2.1 from e) (by omega))
            exact ⟨fun _ => rfl, fun g => absurd ⟨hh.2 ⟨by omega, c2, b0⟩, sr⟩ g⟩
          · rw [br_true]
            rotate_left
            · exact decide_eq_true (show (akAt h.2.2.2.2.2.1 j).2.2.2.2.2.2.2.1 ≥ x.2.2.2.2.2.2.2.1 by omega)
            exact ⟨fun g => absurd g.2 sr, fun _ => rfl⟩
      · rw [br_true (bne_true c2)]
        exact ⟨fun g => absurd (hh.1 g.1).2.1 c2, fun _ => rfl⟩
  · intro k
    show Says (L_spec_l14House_7 K (k + 1) n (h.2.2.2.2.2.1.length : Int) x h) _
    rw [L_spec_l14House_7.step, br_false (decide_eq_false (by omega))]
    exact loop13 hK x hx hp n hn h hs
end F5
