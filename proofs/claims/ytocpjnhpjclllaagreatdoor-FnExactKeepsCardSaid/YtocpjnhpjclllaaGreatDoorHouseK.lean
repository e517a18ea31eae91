/- The world: a house in it, both ask the same. -/
import Derived.Test.YtocpjnhpjclllaaGreatDoorHouseJ
namespace F5
set_option linter.unusedSimpArgs false
open Go Go.Fil Go.Proofs Go.Fil.Cf
set_option maxRecDepth 100000
set_option linter.unusedVariables false
def HeldP (x : S_impl_World) (n : Int) (h : S_impl_House) : Prop := (∀ i, i < x.2.2.1.length → Takes x n h i) ∧ cnt n x.2.2.1 = h.2.2.2.2.2.1.length + h.2.2.2.2.2.2.1.length
theorem kinds {x : S_impl_World} (hp : SocksP x.2.2.1) : ∀ i, i < x.2.2.1.length → (sockAt x.2.2.1 i).2.1 = 1 ∨ (sockAt x.2.2.1 i).2.1 = 2 := fun i hi => by
  have := (hp.1 i hi).1.2.1
  omega
theorem held {K : Nat} (hK : maxLen + 2 ≤ K) (x : S_impl_World) (hx : WS x) (hp : SocksP x.2.2.1) (n : Int) (hn : n = 0 ∨ n = 1) (hlen : x.2.2.2.1.length = 2) (hs : HS (houseAt x n)) : Says (g_impl_heldOk K x n) (HeldP x n (houseAt x n)) := by
  have hm : maxLen = 2 ^ 63 - 1 := rfl
  have hls := hx.ls
  rw [g_impl_heldOk.eq]
  have := held_run hK x hx n hn hlen hs (kinds hp) x.2.2.1.length 0 K 0 (by omega) (by omega) (by omega)
  refine this.imp ?_
  rw [List.drop_zero, Nat.zero_add]
  exact ⟨fun g => ⟨fun i hi => g.1 i (by omega) hi, g.2⟩, fun g => ⟨fun i _ hi => g.1 i hi, g.2⟩⟩
def rowB (x : S_impl_World) (n c : Int) : List Int := (x.2.2.1.filter fun s => on n s && (s.2.1 == c)).map (·.1)
theorem memB (x : S_impl_World) (n c y : Int) : y ∈ rowB x n c ↔ Held x n c y := by
  unfold rowB Held
  rw [List.mem_map]
  have := mem_at (l := x.2.2.1) (z := T_impl_Sock.zero) (P := fun s => s.1 = y ∧ s.2.1 = c ∧ bitv s.2.2.1 n ≠ 0)
  refine Iff.trans ?_ this
  constructor
  · rintro ⟨s, hs, rfl⟩
    rw [List.mem_filter] at hs
    obtain ⟨h1, h2⟩ := hs
    simp only [Bool.and_eq_true, beq_iff_eq] at h2
    exact ⟨s, h1, rfl, h2.2, of_decide_eq_true h2.1⟩
  · rintro ⟨s, h1, h2, h3, h4⟩
    refine ⟨s, List.mem_filter.2 ⟨h1, ?_⟩, h2⟩
    simp only [Bool.and_eq_true, beq_iff_eq]
    exact ⟨decide_eq_true h4, h3⟩
def rowA (h : S_impl_House) : List Int := (h.2.2.2.2.2.1.filter fun _ => true).map (·.1)
def rowL (h : S_impl_House) : List Int := (h.2.2.2.2.2.2.1.filter fun _ => true).map (·.1)
theorem memA (h : S_impl_House) (y : Int) : y ∈ rowA h ↔ ∃ j, j < h.2.2.2.2.2.1.length ∧ (akAt h.2.2.2.2.2.1 j).1 = y := by
  unfold rowA
  rw [List.mem_map]
  have := mem_at (l := h.2.2.2.2.2.1) (z := T_impl_Asker.zero) (P := fun s => s.1 = y)
  refine Iff.trans ?_ this
  simp
theorem memL (h : S_impl_House) (y : Int) : y ∈ rowL h ↔ ∃ j, j < h.2.2.2.2.2.2.1.length ∧ (lnAt h.2.2.2.2.2.2.1 j).1 = y := by
  unfold rowL
  rw [List.mem_map]
  have := mem_at (l := h.2.2.2.2.2.2.1) (z := T_impl_Line.zero) (P := fun s => s.1 = y)
  refine Iff.trans ?_ this
  simp
theorem same_held {K : Nat} (x : S_impl_World) (hp : SocksP x.2.2.1) (n : Int) (hn : n = 0 ∨ n = 1) (h : S_impl_House) (hl : ListsP K h) :
    ((∀ j, j < h.2.2.2.2.2.1.length → Held x n 1 (akAt h.2.2.2.2.2.1 j).1) ∧ (∀ j, j < h.2.2.2.2.2.2.1.length → Held x n 2 (lnAt h.2.2.2.2.2.2.1 j).1) ∧ (∀ i, i < x.2.2.1.length → SockIn x n h i)) ↔ HeldP x n h := by
  have nA : (rowA h).Nodup := rise_nodup h.2.2.2.2.2.1 (·.1) T_impl_Asker.zero _ (fun j hj h0 => (hl.1 j hj).2.1 h0)
  have nL : (rowL h).Nodup := rise_nodup h.2.2.2.2.2.2.1 (·.1) T_impl_Line.zero _ (fun j hj h0 => (hl.2.1 j hj).2 h0)
  have nB : ∀ c, (rowB x n c).Nodup := fun c => rise_nodup x.2.2.1 (·.1) T_impl_Sock.zero _ (fun j hj h0 => (hp.1 j hj).2 h0)
  have hd : ∀ y, y ∈ rowB x n 1 → y ∈ rowB x n 2 → False := by
    intro y h1 h2
    obtain ⟨i, i1, i2, i3, _⟩ := (memB x n 1 y).1 h1
    obtain ⟨j, j1, j2, j3, _⟩ := (memB x n 2 y).1 h2
    have e : i = j := rise_inj (id := fun j => (sockAt x.2.2.1 j).1) (m := x.2.2.1.length) (fun j hj h0 => (hp.1 j hj).2 h0) i1 j1 (i2.trans j2.symm)
    subst e
    omega
  have key := two_rows nA nL (nB 1) (nB 2) hd
  have lA : (rowA h).length = h.2.2.2.2.2.1.length := by simp [rowA]
  have lL : (rowL h).length = h.2.2.2.2.2.2.1.length := by simp [rowL]
  have lB : (rowB x n 1).length + (rowB x n 2).length = cnt n x.2.2.1 := by
    rw [cnt_two n x.2.2.1 (fun s hs => by
      obtain ⟨i, hi, rfl⟩ := List.getElem_of_mem hs
      have := kinds hp i hi
      rwa [sockAt, List.getD_eq_getElem?_getD, List.getElem?_eq_getElem hi] at this)]
    simp [rowB]
  have one : ∀ i, i < x.2.2.1.length → bitv (sockAt x.2.2.1 i).2.2.1 n ≠ 0 → bitv (sockAt x.2.2.1 i).2.2.1 n = 1 := fun i hi hb => by
    have hmask := (hp.1 i hi).1.2.2.1
    rcases bitv_01 (m := (sockAt x.2.2.1 i).2.2.1) (n := n) hmask.1 hmask.2 hn with e | e
    · exact absurd e hb
    · exact e
  rw [lB, lA, lL] at key
  refine Iff.trans ?_ (key.trans ?_)
  · constructor
    · rintro ⟨a, b, c⟩
      refine ⟨fun y hy => ?_, fun y hy => ?_, fun y hy => ?_⟩
      · obtain ⟨j, hj, rfl⟩ := (memA h y).1 hy
        exact (memB x n 1 _).2 (a j hj)
      · obtain ⟨j, hj, rfl⟩ := (memL h y).1 hy
        exact (memB x n 2 _).2 (b j hj)
      · rcases hy with hy | hy
        · obtain ⟨i, i1, rfl, i3, i4⟩ := (memB x n 1 y).1 hy
          rcases c i i1 (one i i1 i4) with g | g
          · exact .inl ((memA h _).2 g)
          · exact .inr ((memL h _).2 g)
        · obtain ⟨i, i1, rfl, i3, i4⟩ := (memB x n 2 y).1 hy
          rcases c i i1 (one i i1 i4) with g | g
          · exact .inl ((memA h _).2 g)
          · exact .inr ((memL h _).2 g)
    · rintro ⟨a, b, c⟩
      refine ⟨fun j hj => (memB x n 1 _).1 (a _ ((memA h _).2 ⟨j, hj, rfl⟩)), fun j hj => (memB x n 2 _).1 (b _ ((memL h _).2 ⟨j, hj, rfl⟩)), fun i hi hb => ?_⟩
      have hb0 : bitv (sockAt x.2.2.1 i).2.2.1 n ≠ 0 := by omega
      have : (sockAt x.2.2.1 i).1 ∈ rowA h ∨ (sockAt x.2.2.1 i).1 ∈ rowL h := by
        refine c _ ?_
        rcases kinds hp i hi with e | e
        · exact .inl ((memB x n 1 _).2 ⟨i, hi, rfl, e, hb0⟩)
        · exact .inr ((memB x n 2 _).2 ⟨i, hi, rfl, e, hb0⟩)
      exact this.elim (fun g => .inl ((memA h _).1 g)) (fun g => .inr ((memL h _).1 g))
  · unfold HeldP
    constructor
    · rintro ⟨a, b, c⟩
      exact ⟨fun i hi hb => ⟨fun e => (memA h _).1 (a _ ((memB x n 1 _).2 ⟨i, hi, rfl, e, hb⟩)), fun e => (memL h _).1 (b _ ((memB x n 2 _).2 ⟨i, hi, rfl, e, hb⟩))⟩, c⟩
    · rintro ⟨a, c⟩
      refine ⟨fun y hy => ?_, fun y hy => ?_, c⟩
      · obtain ⟨i, i1, rfl, i3, i4⟩ := (memB x n 1 y).1 hy
        exact (memA h _).2 ((a i i1 i4).1 i3)
      · obtain ⟨i, i1, rfl, i3, i4⟩ := (memB x n 2 y).1 hy
        exact (memL h _).2 ((a i i1 i4).2 i3)
end F5
