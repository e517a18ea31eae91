/- The world, whole: both say the same. -/
import Derived.Test.YtocpjnhpjclllaaGreatDoorHouseL
namespace F5
set_option linter.unusedSimpArgs false
open Go Go.Fil Go.Proofs Go.Fil.Cf
set_option maxRecDepth 100000
set_option linter.unusedVariables false
theorem Says.andd {o o' : Option Bool} {P Q : Prop} (h : Says o P) (h' : Says o' Q) : Says (o.bind fun y => Fil.br y (o'.bind fun z => some z) (some false)) (P ∧ Q) := by
  obtain ⟨b, rfl, e⟩ := h
  obtain ⟨c, rfl, e'⟩ := h'
  cases b
  · exact Says.f (fun g => by cases e.2 g.1)
  · exact ⟨c, rfl, e'.trans ⟨fun g => ⟨e.1 rfl, g⟩, fun g => g.2⟩⟩
abbrev noteAt (l : List S_impl_Note) (j : Nat) : S_impl_Note := List.getD l j T_impl_Note.zero
def IdsP (x : S_impl_World) : Prop := ∀ i, i < x.2.2.1.length → (sockAt x.2.2.1 i).1 < x.2.2.2.2.2.2.1
def NotesP (K : Nat) (x : S_impl_World) : Prop := ∀ i, i < x.2.2.2.2.2.1.length → g_impl_NoteOk K (noteAt x.2.2.2.2.2.1 i) = some true
theorem spec12 {K : Nat} (hK : maxLen + 2 ≤ K) (x : S_impl_World) (hx : WS x) (j : S_impl_Jour) {P Q : Prop} (h0 : Says (g_spec_l14House K x 0 j.1) P) (h1 : Says (g_spec_l14House K x 1 j.1) Q) : Says (L_spec_WorldOk_12 K K 0 x j) (NotesP K x ∧ P ∧ Q) := by
  have hln := hx.ln
  refine says_loop0 (L := fun k v => L_spec_WorldOk_12 K k v x j) hK (n := x.2.2.2.2.2.1.length) (by omega) ?_ ?_
  · intro k i hi
    obtain ⟨e, b, b1⟩ := note_eq K (noteAt x.2.2.2.2.2.1 i)
    show (_ → L_spec_WorldOk_12 K (k + 1) (i : Int) x j = _) ∧ (_ → L_spec_WorldOk_12 K (k + 1) (i : Int) x j = _)
    rw [L_spec_WorldOk_12.step, br_true (decide_eq_true (by omega)), br_true (in_true (by omega) (by omega)), show (i : Int).toNat = i by omega, e, b1, Option.bind_some, wrap_id (k := (i : Int) + 1) (by omega) (by omega)]
    cases b
    · exact ⟨fun g => (by cases g), fun _ => rfl⟩
    · exact ⟨fun _ => rfl, fun g => absurd rfl g⟩
  · intro k
    show Says (L_spec_WorldOk_12 K (k + 1) (x.2.2.2.2.2.1.length : Int) x j) _
    rw [L_spec_WorldOk_12.step, br_false (decide_eq_false (by omega))]
    exact h0.andd h1
theorem spec7 {K : Nat} (hK : maxLen + 2 ≤ K) (x : S_impl_World) (hx : WS x) (j : S_impl_Jour) {P Q : Prop} (h0 : Says (g_spec_l14House K x 0 j.1) P) (h1 : Says (g_spec_l14House K x 1 j.1) Q) : Says (L_spec_WorldOk_7 K K 0 x j) (IdsP x ∧ NotesP K x ∧ P ∧ Q) := by
  have hls := hx.ls
  refine says_loop0 (L := fun k v => L_spec_WorldOk_7 K k v x j) hK (n := x.2.2.1.length) (by omega) ?_ ?_
  · intro k i hi
    show (_ → L_spec_WorldOk_7 K (k + 1) (i : Int) x j = _) ∧ (_ → L_spec_WorldOk_7 K (k + 1) (i : Int) x j = _)
    rw [L_spec_WorldOk_7.step, br_true (decide_eq_true (by omega)), br_true (in_true (by omega) (by omega)), show (i : Int).toNat = i by omega, wrap_id (k := (i : Int) + 1) (by omega) (by omega)]
    by_cases g : (sockAt x.2.2.1 i).1 < x.2.2.2.2.2.2.1
    · rw [br_false]
      rotate_left
      · exact decide_eq_false (fun e => absurd (show (sockAt x.2.2.1 i).1 ≥ x.2.2.2.2.2.2.1 from e) (by omega))
      exact ⟨fun _ => rfl, fun h => absurd g h⟩
    · rw [br_true]
      rotate_left
      · exact decide_eq_true (show (sockAt x.2.2.1 i).1 ≥ x.2.2.2.2.2.2.1 by omega)
      exact ⟨fun h => absurd h g, fun _ => rfl⟩
  · intro k
    show Says (L_spec_WorldOk_7 K (k + 1) (x.2.2.1.length : Int) x j) _
    rw [L_spec_WorldOk_7.step, br_false (decide_eq_false (by omega))]
    exact spec12 hK x hx j h0 h1
def HouQ (K : Nat) (x : S_impl_World) (kn : S_impl_Known) (bs : Nat → Bool) (i : Nat) : Prop := g_spec_HouseOk K (houseAt x (i : Int)) = some true ∧ (x.2.1.2.2.2.1 = true → (houseAt x (i : Int)).1 = 0) ∧ (SerP x (houseAt x (i : Int)) ∧ EndP kn (i : Int) (houseAt x (i : Int)) (bs i)) ∧ HeldP x (i : Int) (houseAt x (i : Int))
theorem impl17 {K : Nat} (hK : maxLen + 2 ≤ K) (x : S_impl_World) (hx : WS x) (hp : SocksP x.2.2.1) (hlen : x.2.2.2.1.length = 2) (j : S_impl_Jour) (r : PC) (hr : g_impl_ParseConf K j.1.2.1 = some r) (bs : Nat → Bool) (hb : ∀ i : Nat, g_impl_SameConf K (houseAt x (i : Int)).2.2.2.1 r.1 = some (bs i)) : Says (L_impl_WorldOk_17 K K 0 x j) ((∀ i, i < 2 → HouQ K x j.1 bs i) ∧ (x.2.1.2.2.2.1 = true → x.2.2.1.length = 0 ∧ x.2.2.2.2.1.length = 0)) := by
  refine says_loop0 (L := fun k v => L_impl_WorldOk_17 K k v x j) hK (n := 2) (by omega) (P := HouQ K x j.1 bs) ?_ ?_
  · intro k i hi
    have hn : (i : Int) = 0 ∨ (i : Int) = 1 := by omega
    have hmem : houseAt x (i : Int) ∈ x.2.2.2.1 := by
      rw [houseAt, show (i : Int).toNat = i by omega, List.getD_eq_getElem?_getD, List.getElem?_eq_getElem (by omega)]
      exact List.getElem_mem _
    have hs := hx.hs _ hmem
    obtain ⟨bh, h1, h2, h3⟩ := house hK (houseAt x (i : Int)) hs
    obtain ⟨bo, o1, o2⟩ := owned_i hK x (i : Int) hn hlen hs j.1 r hr (bs i) (hb i)
    obtain ⟨be, e1, e2⟩ := held hK x hx hp (i : Int) hn hlen hs
    show (_ → L_impl_WorldOk_17 K (k + 1) (i : Int) x j = _) ∧ (_ → L_impl_WorldOk_17 K (k + 1) (i : Int) x j = _)
    have hin : (decide (0 ≤ (i : Int)) && decide ((i : Int) < ((x.2.2.2.1.length : Nat) : Int))) = true := in_true (by omega) (by omega)
    rw [L_impl_WorldOk_17.step, br_true (decide_eq_true (by omega)), br_true hin, wrap_id (k := (i : Int) + 1) (by omega) (by omega), h2, Option.bind_some, o1, e1]
    simp only [Option.bind_some]
    unfold HouQ
    rw [h1, ← o2, ← e2]
    cases bh
    · exact ⟨fun g => (by cases g.1), fun _ => rfl⟩
    · rw [br_false (c := !true) rfl]
      cases hdn : x.2.1.2.2.2.1
      · rw [br_f]
        cases bo
        · exact ⟨fun g => (by cases g.2.2.1), fun _ => rfl⟩
        · cases be
          · exact ⟨fun g => (by cases g.2.2.2), fun _ => rfl⟩
          · exact ⟨fun _ => rfl, fun g => absurd ⟨rfl, fun h => (by cases h), rfl, rfl⟩ g⟩
      · rw [br_t]
        by_cases s0 : (houseAt x (i : Int)).1 = 0
        · rw [br_false (bne_false s0)]
          cases bo
          · exact ⟨fun g => (by cases g.2.2.1), fun _ => rfl⟩
          · cases be
            · exact ⟨fun g => (by cases g.2.2.2), fun _ => rfl⟩
            · exact ⟨fun _ => rfl, fun g => absurd ⟨rfl, fun _ => s0, rfl, rfl⟩ g⟩
        · rw [br_true (bne_true s0)]
          exact ⟨fun g => absurd (g.2.1 rfl) s0, fun _ => rfl⟩
  · intro k
    show Says (L_impl_WorldOk_17 K (k + 1) ((2 : Nat) : Int) x j) _
    rw [L_impl_WorldOk_17.step, br_false (decide_eq_false (by omega))]
    cases hdn : x.2.1.2.2.2.1
    · exact Says.t (fun h => by cases h)
    · rw [br_false (c := !true) rfl]
      by_cases s0 : x.2.2.1.length = 0
      · rw [br_true (beq_true (by omega))]
        refine ⟨_, rfl, ?_⟩
        rw [beq_iff_eq]
        exact ⟨fun e _ => ⟨s0, by omega⟩, fun e => by have := (e rfl).2; omega⟩
      · rw [br_false (beq_false (by omega))]
        exact Says.f (fun e => s0 (e rfl).1)
theorem impl11 {K : Nat} (hK : maxLen + 2 ≤ K) (x : S_impl_World) (hx : WS x) (j : S_impl_Jour) {R : Prop} (h : Says (L_impl_WorldOk_17 K K 0 x j) R) : Says (L_impl_WorldOk_11 K K 0 x j) (NotesP K x ∧ R) := by
  have hln := hx.ln
  refine says_loop0 (L := fun k v => L_impl_WorldOk_11 K k v x j) hK (n := x.2.2.2.2.2.1.length) (by omega) ?_ ?_
  · intro k i hi
    obtain ⟨e, b, b1⟩ := note_eq K (noteAt x.2.2.2.2.2.1 i)
    show (_ → L_impl_WorldOk_11 K (k + 1) (i : Int) x j = _) ∧ (_ → L_impl_WorldOk_11 K (k + 1) (i : Int) x j = _)
    rw [L_impl_WorldOk_11.step, br_true (decide_eq_true (by omega)), br_true (in_true (by omega) (by omega)), show (i : Int).toNat = i by omega, b1, Option.bind_some, wrap_id (k := (i : Int) + 1) (by omega) (by omega)]
    cases b
    · exact ⟨fun g => (by cases g), fun _ => rfl⟩
    · exact ⟨fun _ => rfl, fun g => absurd rfl g⟩
  · intro k
    show Says (L_impl_WorldOk_11 K (k + 1) (x.2.2.2.2.2.1.length : Int) x j) _
    rw [L_impl_WorldOk_11.step, br_false (decide_eq_false (by omega))]
    exact h
theorem impl5 {K : Nat} (hK : maxLen + 2 ≤ K) (x : S_impl_World) (hx : WS x) (j : S_impl_Jour) {R : Prop} (h : Says (L_impl_WorldOk_17 K K 0 x j) R) : Says (L_impl_WorldOk_5 K K x 0 x j) (IdsP x ∧ NotesP K x ∧ R) := by
  have hls := hx.ls
  refine says_loop0 (L := fun k v => L_impl_WorldOk_5 K k x v x j) hK (n := x.2.2.1.length) (by omega) ?_ ?_
  · intro k i hi
    show (_ → L_impl_WorldOk_5 K (k + 1) x (i : Int) x j = _) ∧ (_ → L_impl_WorldOk_5 K (k + 1) x (i : Int) x j = _)
    rw [L_impl_WorldOk_5.step, br_true (decide_eq_true (by omega)), br_true (in_true (by omega) (by omega)), show (i : Int).toNat = i by omega, wrap_id (k := (i : Int) + 1) (by omega) (by omega)]
    by_cases g : (sockAt x.2.2.1 i).1 < x.2.2.2.2.2.2.1
    · rw [br_false]
      rotate_left
      · exact decide_eq_false (fun e => absurd (show (sockAt x.2.2.1 i).1 ≥ x.2.2.2.2.2.2.1 from e) (by omega))
      exact ⟨fun _ => rfl, fun h => absurd g h⟩
    · rw [br_true]
      rotate_left
      · exact decide_eq_true (show (sockAt x.2.2.1 i).1 ≥ x.2.2.2.2.2.2.1 by omega)
      exact ⟨fun h => absurd h g, fun _ => rfl⟩
  · intro k
    show Says (L_impl_WorldOk_5 K (k + 1) x (x.2.2.1.length : Int) x j) _
    rw [L_impl_WorldOk_5.step, br_false (decide_eq_false (by omega))]
    exact impl11 hK x hx j h
end F5
