/- AgreeAll. -/
import Derived.Test.YtocpjnhpjclllaaGreatDoorLawW
import Derived.Test.YtocpjnhpjclllaaGreatDoorFunD
import Derived.Test.YtocpjnhpjclllaaGreatDoorHouseAll
/- Said, both programs: the plain law, as proved at another seat. -/
namespace F5.Sd
set_option linter.unusedSimpArgs false
open Go Go.Fil Go.Proofs
set_option maxRecDepth 100000
set_option linter.unusedVariables false
theorem idx_eq (K : Nat) (x : (List S_impl_Sock)) (n : Int) : ∀ (k : Nat) (v : Int), L_slices_IndexFunc_S_impl_Sock_2 K k x n v = L_spec_SockAt_2 K k x n v
  | 0, v => by rw [L_slices_IndexFunc_S_impl_Sock_2.zero, L_spec_SockAt_2.zero]
  | k + 1, v => by rw [L_slices_IndexFunc_S_impl_Sock_2.step, L_spec_SockAt_2.step, g_impl_SockAt_1.eq, Option.bind_some, idx_eq K x n k]
theorem idx_run {K : Nat} (x : (List S_impl_Sock)) (n : Int) (hl : List.length x ≤ 1048576) : ∀ (q v k : Nat), v + q = List.length x → q < k → ∃ r : Int, L_spec_SockAt_2 K k x n (v : Int) = some r ∧ r < (List.length x : Int)
  | 0, v, k + 1, hv, _ => by
    rw [L_spec_SockAt_2.step, br_false (by simp; omega)]
    exact ⟨-1, rfl, by omega⟩
  | q + 1, v, k + 1, hv, hk => by
    rw [L_spec_SockAt_2.step, br_true (by simp; omega), br_true (in_true (by omega) (by omega)), wrap_id (by omega) (by omega)]
    cases hb : (((List.getD x (Int.toNat (v : Int)) T_impl_Sock.zero).1 : Int) == n)
    · rw [br_f]
      exact idx_run x n hl q (v + 1) k (by omega) (by omega)
    · rw [br_t]
      exact ⟨_, rfl, by omega⟩
  | _, _, 0, _, h => absurd h (Nat.not_lt_zero _)
theorem in_eq (K : Nat) (a b c : Int) : g_spec_l1In K a b c = g_impl_isIn K a b c := by
  rw [g_spec_l1In.eq, g_impl_isIn.eq]
theorem name_eq (K : Nat) (s : ByteArray) : ∀ (k : Nat) (v : Int), L_spec_l1Name_2 K k s v = L_impl_nameOk_2 K k s v
  | 0, v => by rw [L_spec_l1Name_2.zero, L_impl_nameOk_2.zero]
  | k + 1, v => by rw [L_spec_l1Name_2.step, L_impl_nameOk_2.step, name_eq K s k, in_eq]
theorem nameOk_eq (K : Nat) (s : ByteArray) : g_spec_l1Name K s = g_impl_nameOk K s := by rw [g_spec_l1Name.eq, g_impl_nameOk.eq, name_eq]
theorem in_run (K : Nat) (a b c : Int) : ∃ r, g_impl_isIn K a b c = some r := by
  rw [g_impl_isIn.eq]
  cases decide (b ≤ a) <;> exact ⟨_, rfl⟩
theorem name_run {K : Nat} (s : ByteArray) (hl : s.size ≤ 1048576) : ∀ (q v k : Nat), v + q = s.size → q < k → ∃ r, L_impl_nameOk_2 K k s (v : Int) = some r
  | 0, v, k + 1, hv, _ => by
    obtain ⟨r, hr⟩ := in_run K ((s.size : Nat) : Int) 1 8
    rw [L_impl_nameOk_2.step, br_false (by simp; omega), hr]
    exact ⟨_, rfl⟩
  | q + 1, v, k + 1, hv, hk => by
    have hin : (decide (0 ≤ (v : Int)) && decide ((v : Int) < (s.size : Int))) = true := in_true (by omega) (by omega)
    rw [L_impl_nameOk_2.step, br_true (by simp; omega)]
    simp only [hin, br_t]
    rw [wrap_id (by omega) (by omega)]
    cases decide (((bt s v) : Int) < 97)
    · cases decide (((bt s v) : Int) > 122)
      · exact name_run s hl q (v + 1) k (by omega) (by omega)
      · exact ⟨_, rfl⟩
    · exact ⟨_, rfl⟩
  | _, _, 0, _, h => absurd h (Nat.not_lt_zero _)
theorem text_eq {K : Nat} (s : ByteArray) (hl : s.size ≤ 1048576) : ∀ (q v k : Nat), v + q = s.size → q < k → ∃ r, L_spec_TextOk_2 K k s (v : Int) = some r ∧ L_impl_TextOk_2 K k s (v : Int) = some r ∧ (100 < s.size → r = false)
  | 0, v, k + 1, hv, _ => by
    have hlt : decide ((v : Int) < ((s.size : Nat) : Int)) = false := decide_eq_false (by omega)
    rw [L_spec_TextOk_2.step, L_impl_TextOk_2.step]
    simp only [hlt, br_f]
    exact ⟨_, rfl, rfl, fun h => decide_eq_false (by omega)⟩
  | q + 1, v, k + 1, hv, hk => by
    have hin : (decide (0 ≤ (v : Int)) && decide ((v : Int) < (s.size : Int))) = true := in_true (by omega) (by omega)
    have hlt : decide ((v : Int) < ((s.size : Nat) : Int)) = true := decide_eq_true (by omega)
    rw [L_spec_TextOk_2.step, L_impl_TextOk_2.step]
    simp only [hin, hlt, br_t]
    rw [wrap_id (by omega) (by omega)]
    obtain ⟨r, h1, h2, h3⟩ := text_eq s hl q (v + 1) k (by omega) (by omega)
    by_cases hv100 : (v : Int) ≤ 100
    · have h100 : decide ((v : Int) ≤ 100) = true := decide_eq_true hv100
      simp only [h100, br_t]
      cases decide (((bt s v) : Int) < 32)
      · cases decide (((bt s v) : Int) > 126)
        · exact ⟨r, h1, h2, h3⟩
        · exact ⟨false, rfl, rfl, fun _ => rfl⟩
      · exact ⟨false, rfl, rfl, fun _ => rfl⟩
    · have h100 : decide ((v : Int) ≤ 100) = false := decide_eq_false hv100
      have hs : decide (((s.size : Nat) : Int) ≤ 100) = false := decide_eq_false (by omega)
      simp only [h100, br_f, hs]
      have hr := h3 (by omega)
      subst hr
      cases decide (((bt s v) : Int) < 32)
      · cases decide (((bt s v) : Int) > 126)
        · exact ⟨false, rfl, h2, fun _ => rfl⟩
        · exact ⟨false, rfl, rfl, fun _ => rfl⟩
      · exact ⟨false, rfl, rfl, fun _ => rfl⟩
  | _, _, 0, _, h => absurd h (Nat.not_lt_zero _)
theorem textOk_eq {K : Nat} (hK : maxLen + 2 ≤ K) (s : ByteArray) (hl : s.size ≤ 1048576) : ∃ r, g_spec_TextOk K s = some r ∧ g_impl_TextOk K s = some r := by
  have hm : maxLen = 2 ^ 63 - 1 := rfl
  obtain ⟨r, h1, h2, _⟩ := text_eq (K := K) s hl s.size 0 K (by omega) (by omega)
  exact ⟨r, by rw [g_spec_TextOk.eq]; exact h1, by rw [g_impl_TextOk.eq]; exact h2⟩
theorem beqB_iff (a b : ByteArray) : (a == b) = true ↔ a = b := by
  obtain ⟨a⟩ := a
  obtain ⟨b⟩ := b
  constructor
  · intro h
    have : (a == b) = true := h
    rw [beq_iff_eq.1 this]
  · intro h
    injection h with h
    subst h
    show (a == a) = true
    exact beq_self_eq_true a
theorem strEq_iff (a b : ByteArray) : strEq a b = true ↔ a = b := by
  unfold strEq
  rw [ByteArray.toList_eq, ByteArray.toList_eq, beq_iff_eq]
  constructor
  · intro h
    obtain ⟨a⟩ := a
    obtain ⟨b⟩ := b
    congr 1
    exact Array.toList_inj.1 h
  · rintro rfl; rfl
theorem strEq_beq (a b : ByteArray) : strEq a b = (a == b) := by
  cases h : (a == b)
  · cases h2 : strEq a b
    · rfl
    · rw [(strEq_iff a b).1 h2] at h
      rw [(beqB_iff b b).2 rfl] at h
      cases h
  · rw [(strEq_iff a b).2 ((beqB_iff a b).1 h)]
theorem frameOk_eq {K : Nat} (hK : maxLen + 2 ≤ K) (f : S_impl_Frame) (hl : ByteArray.size f.2.1 ≤ 1048576) : ∃ r, g_spec_FrameOk K f = some r ∧ g_impl_FrameOk K f = some r := by
  have hm : maxLen = 2 ^ 63 - 1 := rfl
  obtain ⟨t, ht1, ht2⟩ := textOk_eq hK f.2.1 hl
  obtain ⟨q, hq⟩ := name_run (K := K) f.2.1 hl (ByteArray.size f.2.1) 0 K (by omega) (by omega)
  have hn : g_impl_nameOk K f.2.1 = some q := by rw [g_impl_nameOk.eq]; exact hq
  obtain ⟨z, hz⟩ := in_run K f.2.2.1 0 2
  have hbye : (f.1 == 3) = true → (br (strEq f.2.1 (⟨#[]⟩ : ByteArray)) (some ((f.2.2.1 : Int) == 0)) (some false)) = some (eqT T_impl_Frame f (3, ((⟨#[]⟩ : ByteArray), (0, ()))) == true) := by
    intro h3
    have e : eqT T_impl_Frame f (3, ((⟨#[]⟩ : ByteArray), (0, ()))) = ((f.1 == 3) && ((f.2.1 == (⟨#[]⟩ : ByteArray)) && ((f.2.2.1 == 0) && true))) := rfl
    rw [e, h3, strEq_beq]
    cases (f.2.1 == (⟨#[]⟩ : ByteArray)) <;> cases (f.2.2.1 == 0) <;> rfl
  rw [g_spec_FrameOk.eq, g_impl_FrameOk.eq]
  simp only [nameOk_eq, in_eq, ht1, ht2, hn, hz, Option.bind_some]
  cases h1 : ((f.1 : Int) == 1) <;> cases h2 : ((f.1 : Int) == 2) <;> cases h4 : ((f.1 : Int) == 4) <;> cases h6 : ((f.1 : Int) == 6) <;> cases h5 : ((f.1 : Int) == 5) <;> cases h3 : ((f.1 : Int) == 3) <;> simp only [br_t, br_f] <;> first
    | exact ⟨_, rfl, rfl⟩
    | exact ⟨_, hbye h3, rfl⟩
    | (cases q <;> exact ⟨_, rfl, rfl⟩)
    | (cases t <;> exact ⟨_, rfl, rfl⟩)
    | (cases strEq f.2.1 (⟨#[]⟩ : ByteArray) <;> exact ⟨_, rfl, rfl⟩)
theorem in_val (K : Nat) (a b c : Int) : g_spec_l1In K a b c = some (decide (b ≤ a) && decide (a ≤ c)) := by
  rw [g_spec_l1In.eq]
  by_cases h : b ≤ a
  · have h1 : decide ((a : Int) ≥ b) = true := decide_eq_true h
    have h2 : decide (b ≤ a) = true := decide_eq_true h
    rw [h1, br_t, Bool.true_and]
  · have h1 : decide ((a : Int) ≥ b) = false := decide_eq_false h
    have h2 : decide (b ≤ a) = false := decide_eq_false h
    rw [h1, br_f, Bool.false_and]
theorem frame_bad {K : Nat} (f : S_impl_Frame) (h1 : f.1 ≠ 1) (h2 : f.1 ≠ 2) (h3 : f.1 ≠ 3) (h4 : f.1 ≠ 4) (h5 : f.1 ≠ 5) (h6 : f.1 ≠ 6) : g_impl_FrameOk K f = some false := by
  rw [g_impl_FrameOk.eq]
  have e1 : ((f.1 : Int) == 1) = false := beq_false_of_ne h1
  have e2 : ((f.1 : Int) == 2) = false := beq_false_of_ne h2
  have e3 : ((f.1 : Int) == 3) = false := beq_false_of_ne h3
  have e4 : ((f.1 : Int) == 4) = false := beq_false_of_ne h4
  have e5 : ((f.1 : Int) == 5) = false := beq_false_of_ne h5
  have e6 : ((f.1 : Int) == 6) = false := beq_false_of_ne h6
  simp only [e1, e2, e3, e4, e5, e6, br_f]
def GF (K : Nat) (b : List Int) : Prop := ∃ r : (S_impl_Frame × (Int × (Int × Unit))), g_spec_GetFrame K b = some r ∧ g_impl_GetFrame K b = some r ∧ (r.2.2.1 = 0 → 1 ≤ r.2.1 ∧ r.2.1 ≤ (b.length : Int))
theorem getFrame0 {K : Nat} : GF K [] := by
  unfold GF
  rw [g_spec_GetFrame.eq, g_impl_GetFrame.eq]
  exact ⟨_, rfl, rfl, fun h => absurd h (by decide)⟩
theorem getFrame1 {K : Nat} (hK : maxLen + 2 ≤ K) (a : Int) (h0 : 0 ≤ a) (h255 : a ≤ 255) : GF K [a] := by
  unfold GF
  have hw : IntKind.wrap .i64 a = a := wrap_id (by omega) (by omega)
  have hlen : (([a] : List Int).length : Int) = 1 := rfl
  obtain ⟨t, ht1, ht2⟩ := frameOk_eq hK (a, ((⟨#[]⟩ : ByteArray), (0, ()))) (show (0 : Nat) ≤ 1048576 by decide)
  rw [g_spec_GetFrame.eq, g_impl_GetFrame.eq]
  simp only [show List.getD [a] (Int.toNat 0) 0 = a from rfl, hw, in_val, ht1, ht2, Option.bind_some, hlen]
  by_cases h3 : a = 3
  · subst h3
    cases t
    · exact ⟨_, rfl, rfl, fun h => absurd h (by decide)⟩
    · exact ⟨_, rfl, rfl, fun _ => by decide⟩
  · by_cases hr : 1 ≤ a ∧ a ≤ 6
    · have : a = 1 ∨ a = 2 ∨ a = 4 ∨ a = 5 ∨ a = 6 := by omega
      rcases this with rfl | rfl | rfl | rfl | rfl <;> exact ⟨_, rfl, rfl, fun h => absurd h (by decide)⟩
    · have hb := frame_bad (K := K) (a, ((⟨#[]⟩ : ByteArray), (0, ()))) (by show a ≠ 1; omega) (by show a ≠ 2; omega) h3 (by show a ≠ 4; omega) (by show a ≠ 5; omega) (by show a ≠ 6; omega)
      rw [hb] at ht2
      obtain rfl : false = t := Option.some.inj ht2
      have e1 : ((a : Int) == 1) = false := beq_false_of_ne (by omega)
      have e2 : ((a : Int) == 2) = false := beq_false_of_ne (by omega)
      have e3 : ((a : Int) == 3) = false := beq_false_of_ne h3
      have e4 : ((a : Int) == 4) = false := beq_false_of_ne (by omega)
      have e5 : ((a : Int) == 5) = false := beq_false_of_ne (by omega)
      have e6 : ((a : Int) == 6) = false := beq_false_of_ne (by omega)
      have er : (decide (1 ≤ a) && decide (a ≤ 6)) = false := by
        rw [← Bool.not_eq_true, Bool.and_eq_true, decide_eq_true_eq, decide_eq_true_eq]
        exact hr
      simp only [e1, e2, e3, e4, e5, e6, er, br_f, Bool.not_false, br_t]
      exact ⟨_, rfl, rfl, fun h => absurd h (by decide)⟩
theorem foldl_push_size : ∀ (xs : List Int) (r : ByteArray), (xs.foldl (fun r n => r.push (UInt8.ofNat n.toNat)) r).size = r.size + xs.length
  | [], r => rfl
  | x :: xs, r => by
    rw [List.foldl_cons, foldl_push_size xs]
    have : (r.push (UInt8.ofNat x.toNat)).size = r.size + 1 := by
      obtain ⟨d⟩ := r
      exact Array.size_push ..
    rw [this, List.length_cons]; omega
theorem strOf_size (xs : List Int) : (strOf xs).size = xs.length := by
  unfold strOf
  rw [foldl_push_size]
  show 0 + _ = _
  omega
theorem getFrame2 {K : Nat} (hK : maxLen + 2 ≤ K) (a c : Int) (r : List Int) (h0 : 0 ≤ a) (h255 : a ≤ 255) (c0 : 0 ≤ c) (c255 : c ≤ 255) (hl : r.length ≤ 1048576) : GF K (a :: c :: r) := by
  unfold GF
  have hwa : IntKind.wrap .i64 a = a := wrap_id (by omega) (by omega)
  have hwc : IntKind.wrap .i64 c = c := wrap_id (by omega) (by omega)
  have hw2 : IntKind.wrap .i64 (2 + c) = 2 + c := wrap_id (by omega) (by omega)
  have hN : ((List.length (a :: c :: r) : Nat) : Int) = (r.length : Int) + 2 := by simp; omega
  have hwn : IntKind.wrap .i64 ((r.length : Int) + 2 - 2) = (r.length : Int) := by rw [wrap_id (by omega) (by omega)]; omega
  have n0 : (((r.length : Int) + 2) == 0) = false := beq_false_of_ne (by omega)
  have n1 : (((r.length : Int) + 2) == 1) = false := beq_false_of_ne (by omega)
  have n2 : decide (((r.length : Int) + 2) < 2) = false := decide_eq_false (by omega)
  have z0 : decide ((0 : Nat) ≤ 0) = true := rfl
  have z1 : decide ((0 : Nat) ≤ 1) = true := rfl
  have z2 : decide ((0 : Nat) ≤ 2) = true := rfl
  have i0 : decide (0 < (r.length : Int) + 2) = true := decide_eq_true (by omega)
  have i1 : decide (1 < (r.length : Int) + 2) = true := decide_eq_true (by omega)
  obtain ⟨t3, ht3, ht3'⟩ := frameOk_eq hK (a, ((⟨#[]⟩ : ByteArray), (0, ()))) (show (0 : Nat) ≤ 1048576 by decide)
  obtain ⟨t5, ht5, ht5'⟩ := frameOk_eq hK (a, ((⟨#[]⟩ : ByteArray), (c, ()))) (show (0 : Nat) ≤ 1048576 by decide)
  have hsz : (strOf (List.drop (Int.toNat 2) (List.take (Int.toNat (2 + c)) (a :: c :: r)))).size ≤ 1048576 := by
    rw [strOf_size]; simp; omega
  obtain ⟨tt, htt, htt'⟩ := frameOk_eq hK (a, (strOf (List.drop (Int.toNat 2) (List.take (Int.toNat (2 + c)) (a :: c :: r))), (0, ()))) hsz
  rw [g_spec_GetFrame.eq, g_impl_GetFrame.eq]
  simp only [show List.getD (a :: c :: r) (Int.toNat 0) 0 = a from rfl, show List.getD (a :: c :: r) (Int.toNat 1) 0 = c from rfl, hwa, hwc, hw2, hN, hwn, in_val, n0, n1, n2, i0, i1, z0, z1, z2, Bool.true_and, br_t, br_f, ht3, ht3', ht5, ht5', htt, htt', Option.bind_some]
  by_cases h3 : a = 3
  · subst h3
    cases t3
    · exact ⟨_, rfl, rfl, fun h => absurd h (by decide)⟩
    · exact ⟨_, rfl, rfl, fun _ => ⟨by decide, by show (1 : Int) ≤ _; omega⟩⟩
  · have e3 : ((a : Int) == 3) = false := beq_false_of_ne h3
    by_cases h5 : a = 5
    · subst h5
      cases t5
      · exact ⟨_, rfl, rfl, fun h => absurd h (by decide)⟩
      · exact ⟨_, rfl, rfl, fun _ => ⟨by show (1 : Int) ≤ 2; decide, by show (2 : Int) ≤ _; omega⟩⟩
    · have e5 : ((a : Int) == 5) = false := beq_false_of_ne h5
      by_cases hr : 1 ≤ a ∧ a ≤ 6
      · have er : (decide (1 ≤ a) && decide (a ≤ 6)) = true := by simp [hr.1, hr.2]
        have text : ∀ z : Option (S_impl_Frame × (Int × (Int × Unit))), True := fun _ => trivial
        by_cases hc : c > 100
        · have dc : decide (c > 100) = true := decide_eq_true hc
          have : a = 1 ∨ a = 2 ∨ a = 4 ∨ a = 6 := by omega
          simp only [e3, e5, er, dc, br_f, br_t, Bool.not_true]
          rcases this with rfl | rfl | rfl | rfl <;> exact ⟨_, rfl, rfl, fun h => absurd h (by decide)⟩
        · have dc : decide (c > 100) = false := decide_eq_false hc
          by_cases hw : c > (r.length : Int)
          · have dw : decide (c > (r.length : Int)) = true := decide_eq_true hw
            have dw2 : decide ((r.length : Int) + 2 < 2 + c) = true := decide_eq_true (by omega)
            have : a = 1 ∨ a = 2 ∨ a = 4 ∨ a = 6 := by omega
            simp only [e3, e5, er, dc, dw, dw2, br_f, br_t, Bool.not_true]
            rcases this with rfl | rfl | rfl | rfl <;> exact ⟨_, rfl, rfl, fun h => absurd h (by decide)⟩
          · have dw : decide (c > (r.length : Int)) = false := decide_eq_false hw
            have dw2 : decide ((r.length : Int) + 2 < 2 + c) = false := decide_eq_false (by omega)
            have d1 : (decide (0 ≤ 2 + c) && decide (2 + c ≤ (r.length : Int) + 2)) = true := by simp; omega
            have d2 : decide ((2 : Int) ≤ ((Int.toNat (2 + c) : Nat) : Int)) = true := decide_eq_true (by omega)
            have : a = 1 ∨ a = 2 ∨ a = 4 ∨ a = 6 := by omega
            simp only [e3, e5, er, dc, dw, dw2, d1, d2, br_f, br_t, Bool.not_true]
            cases tt
            · rcases this with rfl | rfl | rfl | rfl <;> exact ⟨_, rfl, rfl, fun h => absurd h (by decide)⟩
            · rcases this with rfl | rfl | rfl | rfl <;> exact ⟨_, rfl, rfl, fun _ => ⟨by show (1 : Int) ≤ 2 + c; omega, by show 2 + c ≤ _; omega⟩⟩
      · have hb := frame_bad (K := K) (a, ((⟨#[]⟩ : ByteArray), (0, ()))) (by show a ≠ 1; omega) (by show a ≠ 2; omega) h3 (by show a ≠ 4; omega) h5 (by show a ≠ 6; omega)
        rw [hb] at ht3'
        obtain rfl : false = t3 := Option.some.inj ht3'
        have e1 : ((a : Int) == 1) = false := beq_false_of_ne (by omega)
        have e2 : ((a : Int) == 2) = false := beq_false_of_ne (by omega)
        have e4 : ((a : Int) == 4) = false := beq_false_of_ne (by omega)
        have e6 : ((a : Int) == 6) = false := beq_false_of_ne (by omega)
        have er : (decide (1 ≤ a) && decide (a ≤ 6)) = false := by
          rw [← Bool.not_eq_true, Bool.and_eq_true, decide_eq_true_eq, decide_eq_true_eq]
          exact hr
        simp only [e1, e2, e3, e4, e5, e6, er, br_f, Bool.not_false, br_t]
        exact ⟨_, rfl, rfl, fun h => absurd h (by decide)⟩
theorem getFrame {K : Nat} (hK : maxLen + 2 ≤ K) (b : List Int) (hb : ∀ a ∈ b, 0 ≤ a ∧ a ≤ 255) (hl : b.length ≤ 1048576) : GF K b := by
  match b, hb, hl with
  | [], _, _ => exact getFrame0
  | [a], hb, _ => exact getFrame1 hK a (hb a (by simp)).1 (hb a (by simp)).2
  | a :: c :: r, hb, hl => exact getFrame2 hK a c r (hb a (by simp)).1 (hb a (by simp)).2 (hb c (by simp)).1 (hb c (by simp)).2 (by simp at hl; omega)
theorem frames_loop {K : Nat} (hK : maxLen + 2 ≤ K) (x : List Int) (hb : ∀ a ∈ x, 0 ≤ a ∧ a ≤ 255) (hl : x.length ≤ 1048576) : ∀ (q v k : Nat) (o : List S_impl_Frame), v + q = x.length → q < k → o.length ≤ v → ∃ (l : List S_impl_Frame) (c : Int), L_spec_Frames_3 K k x (v : Int) o = some (l, (c, ())) ∧ L_impl_Frames_2 K k (x.drop v) o = some (l, (c, ())) ∧ l.length ≤ 1048576 := by
  intro q
  induction q using Nat.strongRecOn with
  | _ q ih =>
    intro v k o hv hk ho
    obtain ⟨k, rfl⟩ : ∃ m, k = m + 1 := ⟨k - 1, by omega⟩
    have hdl : ((List.length (x.drop v) : Nat) : Int) = (q : Int) := by rw [List.length_drop]; omega
    rw [L_spec_Frames_3.step, L_impl_Frames_2.step]
    by_cases hq : q = 0
    · have d1 : decide ((v : Int) < ((List.length x : Nat) : Int)) = false := decide_eq_false (by omega)
      have d2 : decide (((List.length (x.drop v) : Nat) : Int) > 0) = false := decide_eq_false (by omega)
      rw [d1, d2, br_f, br_f]
      exact ⟨o, 0, rfl, rfl, by omega⟩
    · have d1 : decide ((v : Int) < ((List.length x : Nat) : Int)) = true := decide_eq_true (by omega)
      have d2 : decide (((List.length (x.drop v) : Nat) : Int) > 0) = true := decide_eq_true (by omega)
      have d3 : (decide (0 ≤ (v : Int)) && decide ((v : Int) ≤ (List.length x : Int))) = true := by simp; omega
      have hdrop : List.drop (Int.toNat (v : Int)) (List.take (List.length x) x) = x.drop v := by rw [Int.toNat_natCast, List.take_length]
      obtain ⟨r, h1, h2, h3⟩ := getFrame hK (x.drop v) (fun a ha => hb a (List.mem_of_mem_drop ha)) (by rw [List.length_drop]; omega)
      rw [d1, d2, br_t, br_t, d3, br_t, hdrop, h1, h2, Option.bind_some, Option.bind_some]
      obtain ⟨f, n, c, u⟩ := r
      by_cases hc : c = 0
      · have hc' : ((c : Int) != 0) = false := by rw [hc]; rfl
        obtain ⟨n1, n2⟩ := h3 hc
        have n1 : (1 : Int) ≤ n := n1
        have n2 : n ≤ ((List.length (x.drop v) : Nat) : Int) := n2
        obtain ⟨N, hN⟩ := Int.eq_ofNat_of_zero_le (Int.le_trans (by decide : (0 : Int) ≤ 1) n1)
        have hN : n = (N : Int) := hN
        subst hN
        have n1 : (1 : Int) ≤ (N : Int) := n1
        have n2 : (N : Int) ≤ (q : Int) := by rw [← hdl]; exact n2
        have d4 : decide ((List.length o + List.length [f]) * 32 ≤ 140737488355328) = true := decide_eq_true (by simp; omega)
        have d5 : (decide (0 ≤ (N : Int)) && decide ((N : Int) ≤ ((List.length (x.drop v) : Nat) : Int))) = true := by rw [hdl]; simp; omega
        show ∃ l c', br ((c : Int) != 0) _ _ = _ ∧ br ((c : Int) != 0) _ _ = _ ∧ _
        rw [hc', br_f, br_f]
        show ∃ l c', br (decide ((List.length o + List.length [f]) * 32 ≤ 140737488355328)) _ _ = _ ∧ br (decide ((List.length o + List.length [f]) * 32 ≤ 140737488355328)) (br (decide (0 ≤ (N : Int)) && decide ((N : Int) ≤ ((List.length (x.drop v) : Nat) : Int))) _ _) _ = _ ∧ _
        rw [d4, br_t, br_t, d5, br_t]
        obtain ⟨l, c', e1, e2, e3⟩ := ih (q - N) (by omega) (v + N) k (o ++ [f]) (by omega) (by omega) (by simp; omega)
        refine ⟨l, c', ?_, ?_, e3⟩
        · rw [← e1]
          show L_spec_Frames_3 K k x (IntKind.wrap .i64 ((v : Int) + (N : Int))) (o ++ [f]) = _
          rw [wrap_id (by omega) (by omega)]; rfl
        · rw [← e2]
          show L_impl_Frames_2 K k (List.drop (Int.toNat (N : Int)) (List.take (List.length (x.drop v)) (x.drop v))) (o ++ [f]) = _
          rw [Int.toNat_natCast, List.take_length, List.drop_drop]
      · have hc' : ((c : Int) != 0) = true := by simpa using hc
        show ∃ l c', br ((c : Int) != 0) _ _ = _ ∧ br ((c : Int) != 0) _ _ = _ ∧ _
        rw [hc', br_t, br_t]
        exact ⟨o, c, rfl, rfl, by omega⟩
theorem said {K : Nat} (hK : maxLen + 2 ≤ K) (x : S_impl_World) (n : Int) (hl : List.length x.2.2.1 ≤ 1048576) (hx : ∀ s ∈ (x.2.2.1 : List S_impl_Sock), (∀ a ∈ (s.2.2.2.2.2.1 : List Int), 0 ≤ a ∧ a ≤ 255) ∧ List.length s.2.2.2.2.2.1 ≤ 1048576) :
    ∃ (l : List S_impl_Frame) (b : Bool), g_spec_Said K x n = some (l, (b, ())) ∧ g_impl_Said K x n = some (l, (b, ())) ∧ l.length ≤ 1048576 := by
  have hm : maxLen = 2 ^ 63 - 1 := rfl
  obtain ⟨i, h1, h2⟩ := idx_run (K := K) x.2.2.1 n hl _ 0 K (Nat.zero_add _) (by omega)
  have e1 : g_spec_SockAt K x.2.2.1 n = some i := by rw [g_spec_SockAt.eq]; exact h1
  have e2 : g_impl_SockAt K x.2.2.1 n = some i := by rw [g_impl_SockAt.eq, g_slices_IndexFunc_S_impl_Sock.eq, idx_eq]; rw [show L_spec_SockAt_2 K K x.2.2.1 n 0 = some i from h1]; rfl
  rw [g_spec_Said.eq, g_impl_Said.eq, e1, e2, Option.bind_some, Option.bind_some]
  by_cases hi : i < 0
  · have d : decide ((i : Int) < 0) = true := decide_eq_true hi
    rw [d, br_t, br_t]
    exact ⟨[], false, rfl, rfl, by simp⟩
  · have d : decide ((i : Int) < 0) = false := decide_eq_false hi
    have d2 : (decide (0 ≤ i) && decide (i < (List.length x.2.2.1 : Int))) = true := by simp; omega
    rw [d, br_f, br_f, d2, br_t, br_t]
    obtain ⟨j, hj⟩ := Int.eq_ofNat_of_zero_le (show 0 ≤ i by omega)
    have hj : i = (j : Int) := hj
    subst hj
    have hjl : j < List.length x.2.2.1 := by omega
    have hg : List.getD x.2.2.1 (Int.toNat (j : Int)) T_impl_Sock.zero = (x.2.2.1 : List S_impl_Sock)[j] := getD_at hjl _
    obtain ⟨hb, hs⟩ := hx _ (List.getElem_mem hjl)
    obtain ⟨l, c, f1, f2, f3⟩ := frames_loop hK _ hb hs _ 0 K [] (Nat.zero_add _) (by omega) (Nat.le_refl _)
    rw [hg, g_spec_Frames.eq, g_impl_Frames.eq]
    have f1' : L_spec_Frames_3 K K ((x.2.2.1 : List S_impl_Sock)[j]).2.2.2.2.2.1 0 [] = some (l, (c, ())) := f1
    have f2' : L_impl_Frames_2 K K ((x.2.2.1 : List S_impl_Sock)[j]).2.2.2.2.2.1 [] = some (l, (c, ())) := by rw [List.drop_zero] at f2; exact f2
    rw [f1', f2', Option.bind_some]
    exact ⟨l, _, rfl, rfl, f3⟩
end F5.Sd
/- WorldOk: what it gives. -/
namespace F5
set_option linter.unusedSimpArgs false
open Go Go.Fil Go.Proofs Go.Fil.Cf
set_option maxRecDepth 100000
set_option linter.unusedVariables false
theorem worldOk2 {K : Nat} (hK : maxLen + 2 ≤ K) (x : S_impl_World) (hx : WS x) : ∃ b, g_spec_WorldOk K x = some b ∧ g_impl_WorldOk K x = some b ∧ (b = true → SocksP x.2.2.1 ∧ x.2.2.2.1.length = 2 ∧ ∃ kn b0 b1, HouP K x kn 0 b0 ∧ HouP K x kn 1 b1) := by
  obtain ⟨r, r1, r2, r3⟩ := openJour hK x.2.1 hx.db
  obtain ⟨pr, q1, q2, _⟩ := parseConf hK r.1.1.2.1 r3.1
  have hH : ∀ i : Nat, ∃ b, g_spec_SameConf K (houseAt x (i : Int)).2.2.2.1 pr.1 = some b ∧ g_impl_SameConf K (houseAt x (i : Int)).2.2.2.1 pr.1 = some b := fun i => sameConf hK _ pr.1 (conf_len hx _)
  have hb : ∀ i : Nat, g_impl_SameConf K (houseAt x (i : Int)).2.2.2.1 pr.1 = some (Classical.choose (hH i)) := fun i => (Classical.choose_spec (hH i)).2
  have hb' : ∀ i : Nat, g_spec_SameConf K (houseAt x (i : Int)).2.2.2.1 pr.1 = some (Classical.choose (hH i)) := fun i => (Classical.choose_spec (hH i)).1
  let bs : Nat → Bool := fun i => Classical.choose (hH i)
  have hmem : ∀ n : Int, (n = 0 ∨ n = 1) → x.2.2.2.1.length = 2 → HS (houseAt x n) := fun n hn hl => by
    refine hx.hs _ ?_
    rw [houseAt, List.getD_eq_getElem?_getD, List.getElem?_eq_getElem (by omega)]
    exact List.getElem_mem _
  have hl7 : SocksP x.2.2.1 → x.2.2.2.1.length = 2 → Says (L_spec_WorldOk_7 K K 0 x r.1) (IdsP x ∧ NotesP K x ∧ HouP K x r.1.1 0 (bs 0) ∧ HouP K x r.1.1 1 (bs 1)) := fun hp hl =>
    spec7 hK x hx r.1 (house_s hK x hx hp 0 (.inl rfl) hl (hmem 0 (.inl rfl) hl) r.1.1 pr q1 (bs 0) (hb' 0)) (house_s hK x hx hp 1 (.inr rfl) hl (hmem 1 (.inr rfl) hl) r.1.1 pr q1 (bs 1) (hb' 1))
  have hls := hx.ls
  have hlw := hx.lw
  have hlh := hx.lh
  have hopen : (!r.2.1) = true ↔ r.2.1 = false := by cases r.2.1 <;> simp
  have spec : Says (g_spec_WorldOk K x) (¬ r.2.1 = false ∧ (0 ≤ x.1 ∧ x.1 ≤ 100000) ∧ SocksP x.2.2.1 ∧ ¬ (x.2.2.2.1.length ≠ 2) ∧ WayP x.2.2.2.2.1 ∧ ¬ (x.2.2.2.2.2.2.1 < 1) ∧ ¬ (x.2.2.2.2.2.2.2.1 < 1) ∧ Down x ∧ (IdsP x ∧ NotesP K x ∧ HouP K x r.1.1 0 (bs 0) ∧ HouP K x r.1.1 1 (bs 1))) := by
    rw [g_spec_WorldOk.eq, r1, Option.bind_some]
    refine Says.guard hopen (fun _ => Says.gate (says_in K _ _ _) (fun _ => Says.gate (socksOk_s hK _ hx.ls) (fun hp => Says.guard (by rw [bne_iff_ne]; omega) (fun hl => Says.gate (wayOk_s hK _ hx.lw) (fun _ => Says.guard decide_eq_true_iff (fun _ => Says.guard decide_eq_true_iff (fun _ => ?_)))))))
    have hl : x.2.2.2.1.length = 2 := by omega
    have h7 := hl7 hp hl
    unfold Down
    cases hdn : x.2.1.2.2.2.1
    · rw [br_f]
      exact h7.imp ⟨fun g => ⟨fun h => (by cases h), g⟩, fun g => g.2⟩
    · rw [br_t, br_true (by simp [hl])]
      have e1 : Says (br (decide (((x.2.2.2.2.1.length : Nat) : Int) > 0)) (some false) (L_spec_WorldOk_7 K K 0 x r.1)) _ := Says.guard decide_eq_true_iff (fun _ => h7)
      have e2 : Says (br (decide (((x.2.2.1.length : Nat) : Int) > 0)) (some false) (br (decide (((x.2.2.2.2.1.length : Nat) : Int) > 0)) (some false) (L_spec_WorldOk_7 K K 0 x r.1))) _ := Says.guard decide_eq_true_iff (fun _ => e1)
      have e3 : Says (br (((houseAt x 1).1 : Int) != 0) (some false) (br (decide (((x.2.2.1.length : Nat) : Int) > 0)) (some false) (br (decide (((x.2.2.2.2.1.length : Nat) : Int) > 0)) (some false) (L_spec_WorldOk_7 K K 0 x r.1)))) _ := Says.guard bne_iff_ne (fun _ => e2)
      refine (Says.guard (p := (houseAt x 0).1 ≠ 0) (Q := ¬ ((houseAt x 1).1 ≠ 0) ∧ ¬ (((x.2.2.1.length : Nat) : Int) > 0) ∧ ¬ (((x.2.2.2.2.1.length : Nat) : Int) > 0) ∧ (IdsP x ∧ NotesP K x ∧ HouP K x r.1.1 0 (bs 0) ∧ HouP K x r.1.1 1 (bs 1))) bne_iff_ne (fun _ => ?_)).imp ?_
      · rw [br_true (by simp [hl])]
        exact e3
      constructor
      · rintro ⟨a, b, c, d, e⟩
        exact ⟨fun _ => ⟨by omega, by omega, by omega, by omega⟩, e⟩
      · rintro ⟨a, e⟩
        obtain ⟨a1, a2, a3, a4⟩ := a rfl
        exact ⟨by omega, by omega, by omega, by omega, e⟩
  have impl : Says (g_impl_WorldOk K x) (¬ r.2.1 = false ∧ (0 ≤ x.1 ∧ x.1 ≤ 100000) ∧ ¬ (x.2.2.2.2.2.2.1 < 1) ∧ ¬ (x.2.2.2.2.2.2.2.1 < 1) ∧ ¬ (x.2.2.2.1.length ≠ 2) ∧ SocksP x.2.2.1 ∧ WayP x.2.2.2.2.1 ∧ (IdsP x ∧ NotesP K x ∧ (∀ i, i < 2 → HouQ K x r.1.1 bs i) ∧ (x.2.1.2.2.2.1 = true → x.2.2.1.length = 0 ∧ x.2.2.2.2.1.length = 0))) := by
    rw [g_impl_WorldOk.eq, r2, Option.bind_some]
    refine Says.guard hopen (fun _ => Says.gate (says_isIn K _ _ _) (fun _ => Says.guard decide_eq_true_iff (fun _ => Says.guard decide_eq_true_iff (fun _ => Says.guard (by rw [bne_iff_ne]; omega) (fun hl => Says.gate (socksOk_i hK _ hx.ls) (fun hp => Says.gate (wayOk_i hK _ hx.lw) (fun _ => ?_)))))))
    exact impl5 hK x hx r.1 (impl17 hK x hx hp (by omega) r.1 pr q2 bs hb)
  obtain ⟨b, b1, b2⟩ := spec
  obtain ⟨c, c1, c2⟩ := impl
  have e : b = c := by
    refine Bool.eq_iff_iff.2 (b2.trans (Iff.trans ?_ c2.symm))
    constructor
    · rintro ⟨g1, g2, g3, g4, g5, g6, g7, g8, g9, g10, g11, g12⟩
      refine ⟨g1, g2, g6, g7, g4, g3, g5, g9, g10, fun i hi => ?_, fun h => ⟨(g8 h).2.2.1, (g8 h).2.2.2⟩⟩
      have hi' : i = 0 ∨ i = 1 := by omega
      rcases hi' with rfl | rfl
      · exact ⟨g11.1, fun h => (g8 h).1, g11.2.1, g11.2.2⟩
      · exact ⟨g12.1, fun h => (g8 h).2.1, g12.2.1, g12.2.2⟩
    · rintro ⟨g1, g2, g6, g7, g4, g3, g5, g9, g10, g11, g12⟩
      have a0 := g11 0 (by omega)
      have a1 := g11 1 (by omega)
      exact ⟨g1, g2, g3, g4, g5, g6, g7, fun h => ⟨a0.2.1 h, a1.2.1 h, g12 h⟩, g9, g10, ⟨a0.1, a0.2.2.1, a0.2.2.2⟩, ⟨a1.1, a1.2.2.1, a1.2.2.2⟩⟩
  subst e
  exact ⟨b, b1, c1, fun h => by
    obtain ⟨g1, g2, g3, g4, g5, g6, g7, g8, g9, g10, g11, g12⟩ := b2.1 h
    exact ⟨g3, by omega, r.1.1, bs 0, bs 1, g11, g12⟩⟩
/-- Of a sound world each house's lists are sound, and each line's and asker's socket is there. -/
theorem world_house {K : Nat} (hK : maxLen + 2 ≤ K) (x : S_impl_World) (hx : WS x) (hp : SocksP x.2.2.1) (hl : x.2.2.2.1.length = 2) {n : Int} (hn : n = 0 ∨ n = 1) {kn : S_impl_Known} {b : Bool} (h : HouP K x kn n b) : ListsP K (houseAt x n) ∧ InP x n (houseAt x n) := by
  have hm : HS (houseAt x n) := by
    refine hx.hs _ ?_
    rw [houseAt, List.getD_eq_getElem?_getD, List.getElem?_eq_getElem (by omega)]
    exact List.getElem_mem _
  obtain ⟨c, c1, c2, c3⟩ := house hK (houseAt x n) hm
  have e : c = true := by
    have := h.1
    rw [c1] at this
    exact Option.some.inj this
  have hL := c3 e
  have g := (same_held (K := K) x hp n hn (houseAt x n) hL).2 h.2.2
  exact ⟨hL, fun j hj => ⟨g.1 j hj, h.2.1.1.1 j hj⟩, fun j hj => ⟨g.2.1 j hj, h.2.1.1.2 j hj⟩, g.2.2, trivial⟩
theorem sock_same (K : Nat) (l : List S_impl_Sock) (n : Int) : ∀ (k : Nat) (v : Int), L_slices_IndexFunc_S_impl_Sock_2 K k l n v = L_spec_SockAt_2 K k l n v
  | 0, v => by rw [L_slices_IndexFunc_S_impl_Sock_2.zero, L_spec_SockAt_2.zero]
  | k + 1, v => by rw [L_slices_IndexFunc_S_impl_Sock_2.step, L_spec_SockAt_2.step, g_impl_SockAt_1.eq, Option.bind_some, sock_same K l n k]
theorem sockAt_b {K : Nat} (hK : maxLen + 2 ≤ K) (l : List S_impl_Sock) (hl : l.length ≤ 1048576) (n : Int) : ∃ r : Int, g_spec_SockAt K l n = some r ∧ g_impl_SockAt K l n = some r ∧ Found l.length (fun j => (sockAt l j).1) n r := by
  obtain ⟨r, r1, r2⟩ := sockAt_s hK l hl n
  refine ⟨r, r1, ?_, r2⟩
  rw [g_spec_SockAt.eq] at r1
  rw [g_impl_SockAt.eq, g_slices_IndexFunc_S_impl_Sock.eq, sock_same]
  exact congrArg (fun o => Option.bind o fun y => some y) r1
end F5
/- Agree: what a read frame is. -/
namespace F5
set_option linter.unusedSimpArgs false
open Go Go.Fil Go.Proofs Go.Fil.Cf
set_option maxRecDepth 100000
set_option linter.unusedVariables false
def K5 (f : S_impl_Frame) : Prop := f.1 = 5 → f.2.1 = ⟨#[]⟩
theorem br_inv {ρ : Type} {c : Bool} {a b : Option ρ} {r : ρ} (h : br c a b = some r) : (c = true ∧ a = some r) ∨ (c = false ∧ b = some r) := by
  cases c
  · exact .inr ⟨rfl, h⟩
  · exact .inl ⟨rfl, h⟩
theorem bind_inv {α ρ : Type} {o : Option α} {f : α → Option ρ} {r : ρ} (h : o.bind f = some r) : ∃ y, o = some y ∧ f y = some r := by
  cases o with
  | none => cases h
  | some y => exact ⟨y, rfl, h⟩
theorem getFrame5 {K : Nat} (b : List Int) (r : S_impl_Frame × (Int × (Int × Unit))) (h : g_spec_GetFrame K b = some r) : K5 r.1 := by
  rw [g_spec_GetFrame.eq] at h
  have z : ∀ {m n : Int}, some (((0, (⟨#[]⟩, (0, ()))), (m, (n, ()))) : S_impl_Frame × (Int × (Int × Unit))) = some r → K5 r.1 := fun e => by
    injection e with e; subst e; exact fun _ => rfl
  rcases br_inv h with ⟨_, h⟩ | ⟨_, h⟩
  · exact z h
  rcases br_inv h with ⟨_, h⟩ | ⟨_, h⟩
  rotate_left
  · cases h
  obtain ⟨y1, _, h⟩ := bind_inv h
  rcases br_inv h with ⟨_, h⟩ | ⟨_, h⟩
  · exact z h
  rcases br_inv h with ⟨_, h⟩ | ⟨_, h⟩
  · obtain ⟨y2, _, h⟩ := bind_inv h
    rcases br_inv h with ⟨_, h⟩ | ⟨_, h⟩
    · exact z h
    · injection h with h; subst h; exact fun _ => rfl
  rcases br_inv h with ⟨_, h⟩ | ⟨_, h⟩
  · exact z h
  rcases br_inv h with ⟨_, h⟩ | ⟨c5, h⟩
  · rcases br_inv h with ⟨_, h⟩ | ⟨_, h⟩
    · obtain ⟨y2, _, h⟩ := bind_inv h
      rcases br_inv h with ⟨_, h⟩ | ⟨_, h⟩
      · exact z h
      · injection h with h; subst h; exact fun _ => rfl
    · cases h
  rcases br_inv h with ⟨_, h⟩ | ⟨_, h⟩
  rotate_left
  · cases h
  rcases br_inv h with ⟨_, h⟩ | ⟨_, h⟩
  · exact z h
  rcases br_inv h with ⟨_, h⟩ | ⟨_, h⟩
  · exact z h
  rcases br_inv h with ⟨_, h⟩ | ⟨_, h⟩
  rotate_left
  · cases h
  rcases br_inv h with ⟨_, h⟩ | ⟨_, h⟩
  rotate_left
  · cases h
  obtain ⟨y2, _, h⟩ := bind_inv h
  rcases br_inv h with ⟨_, h⟩ | ⟨_, h⟩
  · exact z h
  · injection h with h
    subst h
    intro e
    exact absurd (beq_true e) (by rw [c5]; simp)
theorem frames5 {K : Nat} (x : List Int) : ∀ (k : Nat) (v : Int) (o : List S_impl_Frame) (r : List S_impl_Frame × (Int × Unit)), L_spec_Frames_3 K k x v o = some r → (∀ f ∈ o, K5 f) → ∀ f ∈ r.1, K5 f
  | 0, v, o, r, h, ho => by rw [L_spec_Frames_3.zero] at h; cases h
  | k + 1, v, o, r, h, ho => by
    rw [L_spec_Frames_3.step] at h
    rcases br_inv h with ⟨_, h⟩ | ⟨_, h⟩
    · rcases br_inv h with ⟨_, h⟩ | ⟨_, h⟩
      · obtain ⟨y, hy, h⟩ := bind_inv h
        rcases br_inv h with ⟨_, h⟩ | ⟨_, h⟩
        · injection h with h; subst h; exact ho
        · rcases br_inv h with ⟨_, h⟩ | ⟨_, h⟩
          · refine frames5 x k _ _ r h (fun f hf => ?_)
            rcases List.mem_append.1 hf with hf | hf
            · exact ho f hf
            · rw [List.mem_singleton.1 hf]; exact getFrame5 _ y hy
          · cases h
      · cases h
    · injection h with h; subst h; exact ho
theorem said5 {K : Nat} (x : S_impl_World) (n : Int) (r : List S_impl_Frame × (Bool × Unit)) (h : g_spec_Said K x n = some r) : ∀ f ∈ r.1, K5 f := by
  rw [g_spec_Said.eq] at h
  obtain ⟨y, _, h⟩ := bind_inv h
  rcases br_inv h with ⟨_, h⟩ | ⟨_, h⟩
  · injection h with h; subst h; exact fun f hf => absurd hf (by simp)
  · rcases br_inv h with ⟨_, h⟩ | ⟨_, h⟩
    · obtain ⟨z, hz, h⟩ := bind_inv h
      injection h with h
      subst h
      rw [g_spec_Frames.eq] at hz
      exact frames5 _ K 0 [] z hz (fun f hf => absurd hf (by simp))
    · cases h
end F5
/- Agree: the program's 'only'. -/
namespace F5
set_option linter.unusedSimpArgs false
open Go Go.Fil Go.Proofs Go.Fil.Cf
set_option maxRecDepth 100000
set_option linter.unusedVariables false
abbrev frAt (l : List S_impl_Frame) (j : Nat) : S_impl_Frame := List.getD l j T_impl_Frame.zero
theorem only6 {K : Nat} (fs : List S_impl_Frame) (ks : List Int) (hk : ks.length ≤ 100) (v : Int) (n0 : Nat) (f : S_impl_Frame) : ∀ (r : List Int) (i k : Nat) (b : Bool), ks.drop i = r → i + r.length = ks.length → r.length < k →
    L_impl_only_6 K k n0 fs ks v b (i : Int) f = (if b = true ∨ f.1 ∈ r then L_impl_only_2 K n0 fs ks (IntKind.wrap .i64 (v + 1)) else some false)
  | [], i, k + 1, b, h, hi, hk' => by
    rw [L_impl_only_6.step, br_false (decide_eq_false (by simp at hi; omega))]
    cases b
    · rw [br_true (c := !false) rfl, if_neg (by simp)]
    · rw [br_false (c := !true) rfl, if_pos (by simp)]
  | c :: r, i, k + 1, b, h, hi, hk' => by
    have hlt : i < ks.length := by simp at hi; omega
    have hd : ks.drop i = ks[i] :: ks.drop (i + 1) := List.drop_eq_getElem_cons hlt
    rw [hd] at h
    injection h with hd1 hr
    have hat : List.getD ks i 0 = c := by rw [List.getD_eq_getElem?_getD, List.getElem?_eq_getElem hlt]; exact hd1
    have ih := fun b => only6 (K := K) fs ks hk v n0 f r (i + 1) k b hr (by simp at hi; omega) (by simp at hk'; omega)
    rw [Int.natCast_add] at ih
    rw [L_impl_only_6.step, br_true (decide_eq_true (by omega)), br_true (in_true (by omega) (by omega)), show (i : Int).toNat = i by omega, hat, wrap_id (k := (i : Int) + 1) (by omega) (by omega)]
    cases b
    · rw [br_f]
      refine (ih _).trans ?_
      by_cases e : f.1 = c
      · rw [if_pos (.inl (beq_true e)), if_pos (.inr (by simp [e]))]
      · by_cases m : f.1 ∈ r
        · rw [if_pos (.inr m), if_pos (.inr (by simp [m]))]
        · rw [if_neg (by simp [e, m]), if_neg (by simp [e, m])]
    · rw [br_t]
      refine (ih _).trans ?_
      rw [if_pos (.inl rfl), if_pos (.inl rfl)]
  | _, _, 0, _, _, _, h => absurd h (Nat.not_lt_zero _)
theorem only {K : Nat} (hK : maxLen + 2 ≤ K) (fs : List S_impl_Frame) (hl : fs.length ≤ 1048576) (ks : List Int) (hk : ks.length ≤ 100) : Says (g_impl_only K fs ks) ((∀ j, j < fs.length → (frAt fs j).1 ∈ ks) ∧ True) := by
  have hm : maxLen = 2 ^ 63 - 1 := rfl
  rw [g_impl_only.eq]
  refine says_loop0 (L := fun k v => L_impl_only_2 K k fs ks v) hK (n := fs.length) (by omega) (P := fun j => (frAt fs j).1 ∈ ks) ?_ ?_
  · intro k i hi
    show (_ → L_impl_only_2 K (k + 1) fs ks (i : Int) = _) ∧ (_ → L_impl_only_2 K (k + 1) fs ks (i : Int) = _)
    have h6 := only6 (K := K) fs ks hk (i : Int) k (frAt fs i) ks 0 K false (by simp) (Nat.zero_add _) (by omega)
    have h6 : L_impl_only_6 K K k fs ks (i : Int) false 0 (frAt fs i) = _ := h6
    rw [L_impl_only_2.step, br_true (decide_eq_true (by omega)), br_true (in_true (by omega) (by omega)), show (i : Int).toNat = i by omega, h6, wrap_id (k := (i : Int) + 1) (by omega) (by omega)]
    exact ⟨fun g => if_pos (.inr g), fun g => if_neg (fun e => e.elim (fun e => (by cases e)) g)⟩
  · intro k
    show Says (L_impl_only_2 K (k + 1) fs ks (fs.length : Int)) _
    rw [L_impl_only_2.step, br_false (decide_eq_false (by omega))]
    exact Says.t trivial
end F5
/- Agree: lines and askers. -/
namespace F5
set_option linter.unusedSimpArgs false
open Go Go.Fil Go.Proofs Go.Fil.Cf
set_option maxRecDepth 100000
set_option linter.unusedVariables false
def SB (x : S_impl_World) : Prop := ∀ s ∈ x.2.2.1, (∀ a ∈ s.2.2.2.2.2.1, 0 ≤ a ∧ a ≤ 255) ∧ List.length s.2.2.2.2.2.1 ≤ 1048576
theorem line_ag {K : Nat} (hK : maxLen + 2 ≤ K) (x : S_impl_World) (hx : WS x) (hb : SB x) (l : S_impl_Line) (hf : ∃ i, i < x.2.2.1.length ∧ (sockAt x.2.2.1 i).1 = l.1) : ∃ b, g_spec_l22Line K x l = some b ∧ g_impl_lineAgrees K x l = some b := by
  obtain ⟨fs, ok, s1, s2, hl⟩ := Sd.said hK x l.1 hx.ls hb
  obtain ⟨r, r1, r2, r3⟩ := sockAt_b hK x.2.2.1 hx.ls l.1
  have hr0 : ¬ r < 0 := (found_ex r3).2 hf
  have hin : (decide (0 ≤ r) && decide (r < ((x.2.2.1.length : Nat) : Int))) = true := by
    rcases r3 with ⟨g, _⟩ | ⟨i, i1, rfl, _⟩
    · exact absurd g hr0
    · exact in_true (by omega) (by omega)
  have hY : ∃ y : Bool, br ((l.2.2.2.1 : Int) == 1) (br ((l.2.2.2.1 : Int) != 0) (some true) (some (((List.getD x.2.2.1 r.toNat T_impl_Sock.zero).2.2.2.2.2.2.1 : Int) == 0))) (br (((List.getD x.2.2.1 r.toNat T_impl_Sock.zero).2.2.2.2.2.2.2.1 : Int) == ((List.length ((List.getD x.2.2.1 r.toNat T_impl_Sock.zero).2.2.2.2.2.1) : Nat) : Int)) (br ((l.2.2.2.1 : Int) != 0) (some true) (some (((List.getD x.2.2.1 r.toNat T_impl_Sock.zero).2.2.2.2.2.2.1 : Int) == 0))) (some false)) = some y := by
    simp only [br_some]
    exact ⟨_, rfl⟩
  obtain ⟨y, hy⟩ := hY
  have spec : Says (g_spec_l22Line K x l) ((∀ j, j < fs.length → (frAt fs j).1 = 2) ∧ (ok = true ∧ y = true)) := by
    rw [g_spec_l22Line.eq, s1, Option.bind_some]
    refine says_loop0 (L := fun k v => L_spec_l22Line_3 K k (fs, (ok, ())) v x l) hK (n := fs.length) (by omega) (P := fun j => (frAt fs j).1 = 2) ?_ ?_
    · intro k i hi
      show (_ → L_spec_l22Line_3 K (k + 1) (fs, (ok, ())) (i : Int) x l = _) ∧ (_ → L_spec_l22Line_3 K (k + 1) (fs, (ok, ())) (i : Int) x l = _)
      rw [L_spec_l22Line_3.step, br_true (decide_eq_true (by show (i : Int) < ((fs.length : Nat) : Int); omega)), br_true (in_true (n := fs.length) (by omega) (by omega)), show (i : Int).toNat = i by omega, wrap_id (k := (i : Int) + 1) (by omega) (by omega)]
      by_cases e : (frAt fs i).1 = 2
      · rw [br_false (bne_false e)]
        exact ⟨fun _ => rfl, fun g => absurd e g⟩
      · rw [br_true (bne_true e)]
        exact ⟨fun g => absurd g e, fun _ => rfl⟩
    · intro k
      show Says (L_spec_l22Line_3 K (k + 1) (fs, (ok, ())) (fs.length : Int) x l) _
      rw [L_spec_l22Line_3.step, br_false (decide_eq_false (by show ¬ (fs.length : Int) < ((fs.length : Nat) : Int); omega)), r1, Option.bind_some, hin, br_t, hy]
      cases ok
      · exact Says.f (fun g => by cases g.1)
      · exact ⟨y, rfl, ⟨fun g => ⟨rfl, g⟩, fun g => g.2⟩⟩
  have impl : Says (g_impl_lineAgrees K x l) (¬ ok = false ∧ ((∀ j, j < fs.length → (frAt fs j).1 ∈ [2]) ∧ True) ∧ y = true) := by
    rw [g_impl_lineAgrees.eq, s2, Option.bind_some, r2]
    refine Says.guard (by cases ok <;> simp) (fun _ => Says.gate (only hK fs hl [2] (by simp)) (fun _ => ?_))
    rw [Option.bind_some, hin, br_t, hy]
    exact ⟨y, rfl, Iff.rfl⟩
  obtain ⟨b, b1, b2⟩ := spec
  obtain ⟨c, c1, c2⟩ := impl
  have e : b = c := by
    refine Bool.eq_iff_iff.2 (b2.trans (Iff.trans ?_ c2.symm))
    cases ok <;> simp
  subst e
  exact ⟨b, b1, c1⟩
end F5
/- Agree: askers. -/
namespace F5
set_option linter.unusedSimpArgs false
open Go Go.Fil Go.Proofs Go.Fil.Cf
set_option maxRecDepth 100000
set_option linter.unusedVariables false
theorem eqFrame (x y : S_impl_Frame) : eqT T_impl_Frame x y = (x.1 == y.1 && ((x.2.1 == y.2.1) && (x.2.2.1 == y.2.2.1 && true))) := rfl
theorem eq_ready (f : S_impl_Frame) (h5 : K5 f) : (eqT T_impl_Frame f (5, (⟨#[]⟩, (0, ()))) == true) = decide (f.1 = 5 ∧ f.2.2.1 = 0) := by
  rw [eqFrame, Bool.eq_iff_iff]
  simp only [beqB_d, beq_iff_eq, Bool.and_eq_true, decide_eq_true_eq, and_true]
  constructor
  · rintro ⟨a, _, c⟩; exact ⟨a, c⟩
  · rintro ⟨a, c⟩; exact ⟨a, h5 a, c⟩
theorem ask_ag {K : Nat} (hK : maxLen + 2 ≤ K) (x : S_impl_World) (hx : WS x) (hb : SB x) (a : S_impl_Asker) (hst : 0 ≤ a.2.2.1 ∧ a.2.2.1 ≤ 4) : ∃ b, g_spec_l22Asker K x a = some b ∧ g_impl_askerAgrees K x a = some b := by
  obtain ⟨fs, ok, s1, s2, hl⟩ := Sd.said hK x a.1 hx.ls hb
  have h5 : ∀ f ∈ fs, K5 f := said5 x a.1 _ s1
  obtain ⟨r, r1, r2, r3⟩ := sockAt_b hK x.2.2.1 hx.ls a.2.2.2.2.2.2.1
  have hq : ∀ N : Int, ∃ q : Bool, br (decide (r ≥ 0)) (br (decide (0 ≤ r) && decide (r < ((x.2.2.1.length : Nat) : Int))) (some (((List.getD x.2.2.1 r.toNat T_impl_Sock.zero).2.2.2.2.2.2.1 : Int) == N)) none) (some false) = some q := by
    intro N
    by_cases g : r ≥ 0
    · have hin : (decide (0 ≤ r) && decide (r < ((x.2.2.1.length : Nat) : Int))) = true := by
        rcases r3 with ⟨g', _⟩ | ⟨i, i1, rfl, _⟩
        · omega
        · exact in_true (by omega) (by omega)
      rw [br_true (decide_eq_true g), hin, br_t]
      exact ⟨_, rfl⟩
    · rw [br_false (decide_eq_false g)]
      exact ⟨_, rfl⟩
  have hw : fs.length ≠ 0 → IntKind.wrap .i64 (((fs.length : Nat) : Int) - 1) = ((fs.length : Nat) : Int) - 1 := fun _ => wrap_id (by omega) (by omega)
  have hin : fs.length ≠ 0 → (decide ((0 : Int) ≤ ((fs.length : Nat) : Int) - 1) && decide (((fs.length : Nat) : Int) - 1 < ((fs.length : Nat) : Int))) = true := fun h => by simp; omega
  have hnat : fs.length ≠ 0 → (((fs.length : Nat) : Int) - 1).toNat = fs.length - 1 := fun h => by omega
  have hlast : fs.length ≠ 0 → K5 (frAt fs (fs.length - 1)) := fun h => by
    refine h5 _ ?_
    rw [frAt, List.getD_eq_getElem?_getD, List.getElem?_eq_getElem (by omega)]
    exact List.getElem_mem _
  obtain ⟨q, hq'⟩ := hq (frAt fs (fs.length - 1)).2.2.1
  have spec : Says (g_spec_l22Asker K x a) ((∀ j, j < fs.length → 4 ≤ (frAt fs j).1 ∧ (frAt fs j).1 ≤ 6) ∧ (ok = true ∧ (a.2.2.1 = 0 → fs.length = 0) ∧ ((a.2.2.1 = 1 ∨ a.2.2.1 = 2) → fs.length ≠ 0 ∧ (frAt fs (fs.length - 1)).1 = 5 ∧ (frAt fs (fs.length - 1)).2.2.1 = 0) ∧ (a.2.2.1 = 4 → fs.length ≠ 0 ∧ (frAt fs (fs.length - 1)).1 = 5 ∧ (frAt fs (fs.length - 1)).2.2.1 ≠ 0 ∧ q = true))) := by
    rw [g_spec_l22Asker.eq, s1, Option.bind_some]
    refine says_loop0 (L := fun k v => L_spec_l22Asker_3 K k (fs, (ok, ())) v x a) hK (n := fs.length) (by omega) (P := fun j => 4 ≤ (frAt fs j).1 ∧ (frAt fs j).1 ≤ 6) ?_ ?_
    · intro k i hi
      show (_ → L_spec_l22Asker_3 K (k + 1) (fs, (ok, ())) (i : Int) x a = _) ∧ (_ → L_spec_l22Asker_3 K (k + 1) (fs, (ok, ())) (i : Int) x a = _)
      rw [L_spec_l22Asker_3.step, br_true (decide_eq_true (by show (i : Int) < ((fs.length : Nat) : Int); omega)), br_true (in_true (n := fs.length) (by omega) (by omega)), show (i : Int).toNat = i by omega, wrap_id (k := (i : Int) + 1) (by omega) (by omega), l1In_eq, Option.bind_some]
      by_cases e : 4 ≤ (frAt fs i).1 ∧ (frAt fs i).1 ≤ 6
      · rw [in_t e, br_false (c := !true) rfl]
        exact ⟨fun _ => rfl, fun g => absurd e g⟩
      · rw [in_f e, br_true (c := !false) rfl]
        exact ⟨fun g => absurd g e, fun _ => rfl⟩
    · intro k
      show Says (L_spec_l22Asker_3 K (k + 1) (fs, (ok, ())) (fs.length : Int) x a) _
      rw [L_spec_l22Asker_3.step, br_false (decide_eq_false (by show ¬ (fs.length : Int) < ((fs.length : Nat) : Int); omega)), r1]
      simp only [Option.bind_some]
      by_cases t0 : a.2.2.1 = 0
      · rw [br_true (beq_true t0)]
        cases ok
        · exact Says.f (fun g => by cases g.1)
        · refine ⟨_, rfl, ?_⟩
          rw [beq_iff_eq]
          exact ⟨fun e => ⟨rfl, fun _ => by omega, fun e => by omega, fun e => by omega⟩, fun g => by have := g.2.1 t0; omega⟩
      rw [br_false (beq_false t0)]
      by_cases t3 : a.2.2.1 = 3
      · rw [br_true (beq_true t3)]
        exact ⟨ok, rfl, ⟨fun e => ⟨e, fun e => by omega, fun e => by omega, fun e => by omega⟩, fun g => g.1⟩⟩
      rw [br_false (beq_false t3)]
      cases ok
      · exact Says.f (fun g => by cases g.1)
      rw [br_false (c := !true) rfl]
      by_cases n0 : fs.length = 0
      · rw [br_true (beq_true (by omega))]
        refine Says.f (fun g => ?_)
        by_cases t4 : a.2.2.1 = 4
        · exact (g.2.2.2 t4).1 n0
        · exact (g.2.2.1 (by omega)).1 n0
      rw [br_false (beq_false (by omega)), hw n0, hin n0]
      simp only [br_t]
      rw [hnat n0]
      by_cases l5 : (frAt fs (fs.length - 1)).1 = 5
      · rw [br_false (bne_false l5)]
        by_cases t4 : a.2.2.1 = 4
        · rw [br_true (beq_true t4)]
          by_cases z : (frAt fs (fs.length - 1)).2.2.1 = 0
          · rw [br_false (bne_false z)]
            exact Says.f (fun g => (g.2.2.2 t4).2.2.1 z)
          · rw [br_true (bne_true z), hq']
            exact ⟨q, rfl, ⟨fun e => ⟨trivial, fun e => by omega, fun e => by omega, fun _ => ⟨n0, l5, z, e⟩⟩, fun g => (g.2.2.2 t4).2.2.2⟩⟩
        · rw [br_false (beq_false t4)]
          refine ⟨_, rfl, ?_⟩
          rw [beq_iff_eq]
          exact ⟨fun e => ⟨trivial, fun e => by omega, fun _ => ⟨n0, l5, e⟩, fun e => by omega⟩, fun g => (g.2.2.1 (by omega)).2.2⟩
      · rw [br_true (bne_true l5)]
        refine Says.f (fun g => ?_)
        by_cases t4 : a.2.2.1 = 4
        · exact l5 (g.2.2.2 t4).2.1
        · exact l5 (g.2.2.1 (by omega)).2.1
  have impl : Says (g_impl_askerAgrees K x a) (¬ ok = false ∧ ((∀ j, j < fs.length → (frAt fs j).1 ∈ [4, 6, 5]) ∧ True) ∧ ((a.2.2.1 = 0 → fs.length = 0) ∧ ((a.2.2.1 = 1 ∨ a.2.2.1 = 2) → fs.length ≠ 0 ∧ (frAt fs (fs.length - 1)).1 = 5 ∧ (frAt fs (fs.length - 1)).2.2.1 = 0) ∧ (a.2.2.1 = 4 → fs.length ≠ 0 ∧ (frAt fs (fs.length - 1)).1 = 5 ∧ (frAt fs (fs.length - 1)).2.2.1 ≠ 0 ∧ q = true))) := by
    rw [g_impl_askerAgrees.eq, s2, Option.bind_some]
    refine Says.guard (by cases ok <;> simp) (fun _ => Says.gate (only hK fs hl [4, 6, 5] (by simp)) (fun _ => ?_))
    rw [g_impl_readyFrame.eq, r2]
    simp only [Option.bind_some]
    by_cases n0 : fs.length = 0
    · rw [br_false (decide_eq_false (by show ¬ (((fs.length : Nat) : Int) > 0); omega))]
      by_cases t0 : a.2.2.1 = 0
      · rw [br_true (beq_true t0)]
        refine ⟨_, rfl, ?_⟩
        rw [beq_iff_eq]
        exact ⟨fun _ => ⟨fun _ => n0, fun e => by omega, fun e => by omega⟩, fun _ => by show ((fs.length : Nat) : Int) = 0; omega⟩
      rw [br_false (beq_false t0)]
      by_cases t1 : a.2.2.1 = 1
      · rw [br_true (beq_true t1), br_true (beq_true t1)]
        exact ⟨false, rfl, no_iff (fun g => (g.2.1 (.inl t1)).1 n0)⟩
      rw [br_false (beq_false t1)]
      by_cases t2 : a.2.2.1 = 2
      · rw [br_true (beq_true t2)]
        exact ⟨false, rfl, no_iff (fun g => (g.2.1 (.inr t2)).1 n0)⟩
      rw [br_false (beq_false t2)]
      by_cases t4 : a.2.2.1 = 4
      · rw [br_true (beq_true t4), br_false (by decide)]
        exact Says.f (fun g => (g.2.2 t4).1 n0)
      · rw [br_false (beq_false t4)]
        exact Says.t ⟨fun e => absurd e t0, fun e => by omega, fun e => absurd e t4⟩
    · rw [br_true (decide_eq_true (by show ((fs.length : Nat) : Int) > 0; omega))]
      rw [hw n0, hin n0]
      simp only [br_t]
      rw [hnat n0]
      by_cases t0 : a.2.2.1 = 0
      · rw [br_true (beq_true t0)]
        refine ⟨_, rfl, ?_⟩
        rw [beq_iff_eq]
        exact ⟨fun e => absurd (show ((fs.length : Nat) : Int) = 0 from e) (by omega), fun g => absurd (g.1 t0) n0⟩
      rw [br_false (beq_false t0)]
      have er := eq_ready (frAt fs (fs.length - 1)) (hlast n0)
      by_cases t1 : a.2.2.1 = 1
      · rw [br_true (beq_true t1), br_true (beq_true t1), er]
        exact Says.d.imp ⟨fun e => ⟨fun e => absurd e t0, fun _ => ⟨n0, e⟩, fun e => by omega⟩, fun g => (g.2.1 (.inl t1)).2⟩
      rw [br_false (beq_false t1)]
      by_cases t2 : a.2.2.1 = 2
      · rw [br_true (beq_true t2), er]
        exact Says.d.imp ⟨fun e => ⟨fun e => absurd e t0, fun _ => ⟨n0, e⟩, fun e => by omega⟩, fun g => (g.2.1 (.inr t2)).2⟩
      rw [br_false (beq_false t2)]
      by_cases t4 : a.2.2.1 = 4
      · rw [br_true (beq_true t4)]
        by_cases l5 : (frAt fs (fs.length - 1)).1 = 5
        · rw [br_true (beq_true l5)]
          by_cases z : (frAt fs (fs.length - 1)).2.2.1 = 0
          · rw [br_false (bne_false z)]
            exact Says.f (fun g => (g.2.2 t4).2.2.1 z)
          · rw [br_true (bne_true z), hq']
            exact ⟨q, rfl, ⟨fun e => ⟨fun e => absurd e t0, fun e => by omega, fun _ => ⟨n0, l5, z, e⟩⟩, fun g => (g.2.2 t4).2.2.2⟩⟩
        · rw [br_false (beq_false l5)]
          exact Says.f (fun g => l5 (g.2.2 t4).2.1)
      · rw [br_false (beq_false t4)]
        exact Says.t ⟨fun e => absurd e t0, fun e => by omega, fun e => absurd e t4⟩
  obtain ⟨b, b1, b2⟩ := spec
  obtain ⟨c, c1, c2⟩ := impl
  have e : b = c := by
    refine Bool.eq_iff_iff.2 (b2.trans (Iff.trans ?_ c2.symm))
    have kk : ∀ v : Int, (4 ≤ v ∧ v ≤ 6) ↔ v ∈ [(4 : Int), 6, 5] := fun v => by simp; omega
    constructor
    · rintro ⟨g1, g2, g3⟩
      exact ⟨by rw [g2]; simp, ⟨fun j hj => (kk _).1 (g1 j hj), trivial⟩, g3⟩
    · rintro ⟨g2, ⟨g1, _⟩, g3⟩
      exact ⟨fun j hj => (kk _).2 (g1 j hj), by simpa using g2, g3⟩
  subst e
  exact ⟨b, b1, c1⟩
end F5
/- Agree: both say the same. -/
namespace F5
set_option linter.unusedSimpArgs false
open Go Go.Fil Go.Proofs Go.Fil.Cf
set_option maxRecDepth 100000
set_option linter.unusedVariables false
theorem agree9 {K : Nat} (hK : maxLen + 2 ≤ K) (x : S_impl_World) (n : Int) (hh : (decide ((0 : Int) ≤ n) && decide (n < ((x.2.2.2.1.length : Nat) : Int))) = true) (hl : (houseAt x n).2.2.2.2.2.2.1.length ≤ 1048576) (A : ∀ j, j < (houseAt x n).2.2.2.2.2.2.1.length → ∃ b, g_spec_l22Line K x (lnAt (houseAt x n).2.2.2.2.2.2.1 j) = some b ∧ g_impl_lineAgrees K x (lnAt (houseAt x n).2.2.2.2.2.2.1 j) = some b) : ∀ (q i k : Nat), i + q = (houseAt x n).2.2.2.2.2.2.1.length → q < k → ∃ b, L_spec_Agree_9 K k n (i : Int) x = some b ∧ L_impl_Agree_10 K k n (i : Int) x = some b
  | 0, i, k + 1, hi, hk => by
    have hlt : decide ((i : Int) < (((houseAt x n).2.2.2.2.2.2.1.length : Nat) : Int)) = false := decide_eq_false (by omega)
    rw [L_spec_Agree_9.step, L_impl_Agree_10.step, hh, br_t, br_false hlt, br_false hlt]
    exact ⟨true, rfl, rfl⟩
  | q + 1, i, k + 1, hi, hk => by
    have hlt : decide ((i : Int) < (((houseAt x n).2.2.2.2.2.2.1.length : Nat) : Int)) = true := decide_eq_true (by omega)
    have hin : (decide (0 ≤ (i : Int)) && decide ((i : Int) < (((houseAt x n).2.2.2.2.2.2.1.length : Nat) : Int))) = true := in_true (by omega) (by omega)
    obtain ⟨b, b1, b2⟩ := agree9 hK x n hh hl A q (i + 1) k (by omega) (by omega)
    obtain ⟨c, c1, c2⟩ := A i (by omega)
    rw [Int.natCast_add] at b1 b2
    rw [L_spec_Agree_9.step, L_impl_Agree_10.step, hh, br_t, br_true hlt, br_true hlt, br_t, br_true hin, br_true hin, show (i : Int).toNat = i by omega, wrap_id (k := (i : Int) + 1) (by omega) (by omega), c1, c2, Option.bind_some, Option.bind_some]
    cases c
    · exact ⟨false, rfl, rfl⟩
    · exact ⟨b, b1, b2⟩
  | _, _, 0, _, h => absurd h (Nat.not_lt_zero _)
theorem agree4 {K : Nat} (hK : maxLen + 2 ≤ K) (x : S_impl_World) (n : Int) (hh : (decide ((0 : Int) ≤ n) && decide (n < ((x.2.2.2.1.length : Nat) : Int))) = true) (hla : (houseAt x n).2.2.2.2.2.1.length ≤ 1048576) (hl : (houseAt x n).2.2.2.2.2.2.1.length ≤ 1048576) (A : ∀ j, j < (houseAt x n).2.2.2.2.2.2.1.length → ∃ b, g_spec_l22Line K x (lnAt (houseAt x n).2.2.2.2.2.2.1 j) = some b ∧ g_impl_lineAgrees K x (lnAt (houseAt x n).2.2.2.2.2.2.1 j) = some b) (B : ∀ j, j < (houseAt x n).2.2.2.2.2.1.length → ∃ b, g_spec_l22Asker K x (akAt (houseAt x n).2.2.2.2.2.1 j) = some b ∧ g_impl_askerAgrees K x (akAt (houseAt x n).2.2.2.2.2.1 j) = some b) : ∀ (q i k : Nat), i + q = (houseAt x n).2.2.2.2.2.1.length → q < k → ∃ b, L_spec_Agree_4 K k n (i : Int) x = some b ∧ L_impl_Agree_4 K k x n (i : Int) x = some b
  | 0, i, k + 1, hi, hk => by
    have hm : maxLen = 2 ^ 63 - 1 := rfl
    have hlt : decide ((i : Int) < (((houseAt x n).2.2.2.2.2.1.length : Nat) : Int)) = false := decide_eq_false (by omega)
    rw [L_spec_Agree_4.step, L_impl_Agree_4.step, hh, br_t, br_false hlt, br_false hlt, br_t]
    exact agree9 hK x n hh hl A (houseAt x n).2.2.2.2.2.2.1.length 0 K (by omega) (by omega)
  | q + 1, i, k + 1, hi, hk => by
    have hlt : decide ((i : Int) < (((houseAt x n).2.2.2.2.2.1.length : Nat) : Int)) = true := decide_eq_true (by omega)
    have hin : (decide (0 ≤ (i : Int)) && decide ((i : Int) < (((houseAt x n).2.2.2.2.2.1.length : Nat) : Int))) = true := in_true (by omega) (by omega)
    obtain ⟨b, b1, b2⟩ := agree4 hK x n hh hla hl A B q (i + 1) k (by omega) (by omega)
    obtain ⟨c, c1, c2⟩ := B i (by omega)
    rw [Int.natCast_add] at b1 b2
    rw [L_spec_Agree_4.step, L_impl_Agree_4.step, hh, br_t, br_true hlt, br_true hlt, br_t, br_true hin, br_true hin, show (i : Int).toNat = i by omega, wrap_id (k := (i : Int) + 1) (by omega) (by omega), c1, c2, Option.bind_some, Option.bind_some]
    cases c
    · exact ⟨false, rfl, rfl⟩
    · exact ⟨b, b1, b2⟩
  | _, _, 0, _, h => absurd h (Nat.not_lt_zero _)
theorem agree {K : Nat} (hK : maxLen + 2 ≤ K) (x : S_impl_World) (hx : WS x) (hb : SB x) (n : Int) : ∃ b, g_spec_Agree K x n = some b ∧ g_impl_Agree K x n = some b := by
  have hm : maxLen = 2 ^ 63 - 1 := rfl
  obtain ⟨b, b1, b2, b3⟩ := worldOk2 hK x hx
  rw [g_spec_Agree.eq, g_impl_Agree.eq, b1, b2, Option.bind_some, Option.bind_some]
  cases b with
  | false => exact ⟨false, rfl, rfl⟩
  | true =>
    obtain ⟨hp, hl, kn, c0, c1, h0, h1⟩ := b3 rfl
    rw [br_false (c := !true) rfl, br_false (c := !true) rfl, l1In_eq, isIn_eq, Option.bind_some, Option.bind_some]
    by_cases hn : 0 ≤ n ∧ n ≤ 1
    · have hn' : n = 0 ∨ n = 1 := by omega
      have hh : (decide ((0 : Int) ≤ n) && decide (n < ((x.2.2.2.1.length : Nat) : Int))) = true := by simp; omega
      have hw : ListsP K (houseAt x n) ∧ InP x n (houseAt x n) := by
        rcases hn' with rfl | rfl
        · exact world_house hK x hx hp hl (.inl rfl) h0
        · exact world_house hK x hx hp hl (.inr rfl) h1
      obtain ⟨hL, hI⟩ := hw
      have la := hL.2.2.1
      have ll := hL.2.2.2.1
      rw [in_t hn, br_false (c := !true) rfl, br_false (c := !true) rfl, hh, br_t]
      refine agree4 hK x n hh (by omega) (by omega) (fun j hj => line_ag hK x hx hb _ ?_) (fun j hj => ask_ag hK x hx hb _ (hL.1 j hj).1.2.1) (houseAt x n).2.2.2.2.2.1.length 0 K (by omega) (by omega)
      obtain ⟨i, i1, i2, _⟩ := (hI.2.1 j hj).1
      exact ⟨i, i1, i2⟩
    · rw [in_f hn, br_true (c := !false) rfl, br_true (c := !false) rfl]
      exact ⟨false, rfl, rfl⟩
end F5
/- The law of Agree: it says true. -/
namespace F5
set_option linter.unusedSimpArgs false
open Go Go.Fil Go.Proofs Go.Fil.Cf
set_option maxRecDepth 100000
set_option linter.unusedVariables false
theorem world_sb (x : T_laws_World.T) (hB : Bd by_ T_laws_World x) (hw : wt T_laws_World x ≤ 1048576) : SB x := by
  have e : wt T_laws_World x = wt T_int_3 x.1 + (wt T_laws_Disk x.2.1 + (wt T_S_laws_Sock x.2.2.1 + wt (.pair T_S_laws_House (.pair T_S_laws_Pack (.pair T_S_laws_Note (.pair T_int_3 (.pair T_int_3 .unit))))) x.2.2.2)) := rfl
  have ms : ∀ a ∈ (x.2.2.1 : List T_laws_Sock.T), wt T_laws_Sock a ≤ wt T_S_laws_Sock x.2.2.1 := fun a ha => wt_mem (t := T_laws_Sock) ha
  intro s hs
  have h1 := ms s hs
  have h2 : wt T_laws_Sock s = wt T_int_3 s.1 + (wt T_int_3 s.2.1 + (wt T_int_3 s.2.2.1 + (wt T_bool s.2.2.2.1 + (wt T_S_u8 s.2.2.2.2.1 + (wt T_S_u8 s.2.2.2.2.2.1 + wt (.pair T_int_3 (.pair T_int_3 .unit)) s.2.2.2.2.2.2))))) := rfl
  have h3 : List.length s.2.2.2.2.2.1 ≤ wt T_S_u8 s.2.2.2.2.2.1 := len_wt (t := T_u8) s.2.2.2.2.2.1
  refine ⟨fun b hb => byte_wf ((hB.2.2.1.2.2 s hs).2.2.2.2.2.1.2.2 b hb), ?_⟩
  show List.length s.2.2.2.2.2.1 ≤ 1048576
  omega
theorem lawAgree {K : Nat} (hK : maxLen + 2 ≤ K) (x : T_laws_World.T) (n : Int) (hB : Bd by_ T_laws_World x) : g_laws_FnExactAgree K x n = some true := by
  rw [g_laws_FnExactAgree.eq]
  rcases s_laws_szWorld hK x hB 1048576 (by omega) (by omega) with hneg | ⟨l, hsz, hl0, hwt⟩
  · rw [hneg, Option.bind_some, br_true (by decide)]
  · obtain ⟨b, b1, b2⟩ := agree hK x (world_ws x hB (by omega)) (world_sb x hB (by omega)) n
    rw [hsz, Option.bind_some, br_false (decide_eq_false (by omega)), t_laws_toWorld hK x hB, Option.bind_some, b1, Option.bind_some, Option.bind_some, b2, Option.bind_some, br_false (by simp), Option.bind_some, q_laws_eqWorld hK x (bdW x hB), Option.bind_some, br_false (c := !true) rfl]
#print axioms lawAgree
end F5
