/- Records, put and got. -/
import Derived.Test.YtocpjnhpjclllaaGreatDoorCPlainG
set_option linter.unusedSimpArgs false
namespace F5
open Go Go.Fil Go.Proofs Go.Fil.Cf
set_option maxRecDepth 100000
set_option linter.unusedVariables false
theorem wordS (K : Nat) (a : Int) : g_spec_l4Word K a = some (decide (0 ≤ a) && decide (a ≤ 65535)) := by
  rw [g_spec_l4Word.eq, l1In_eq, Option.bind_some]
theorem wordI (K : Nat) (a : Int) : g_impl_wordOk K a = some (decide (0 ≤ a) && decide (a ≤ 65535)) := by
  rw [g_impl_wordOk.eq, isIn_eq, Option.bind_some]
theorem putRec {K : Nat} (hK : maxLen + 2 ≤ K) (a b : Int) (r : S_impl_Rec) (hs : r.2.2.2.1.size ≤ 100) (ht : g_spec_TextOk K r.2.2.2.1 = some true) : ∃ c l, g_spec_RecOk K r = some c ∧ g_impl_RecOk K r = some c ∧ g_spec_PutRec K a b r = some l ∧ g_impl_PutRec K a b r = some l ∧ (c = false → l = []) ∧ (l = [] ∨ ∃ s8 s, s8.length = 8 ∧ l = pw (pt s8 r.2.2.2.1) s) := by
  obtain ⟨c, c1, c2, _⟩ := recOk hK r hs
  refine ⟨c, ?_⟩
  rw [c1, c2, g_spec_PutRec.eq, g_impl_PutRec.eq, c1, c2, Option.bind_some, Option.bind_some]
  cases c with
  | false => exact ⟨[], by trivial, by trivial, rfl, rfl, fun _ => rfl, .inl rfl⟩
  | true =>
    rw [br_false (c := !true) rfl, br_false (c := !true) rfl, wordS, wordI, Option.bind_some, Option.bind_some]
    by_cases h1 : 0 ≤ a ∧ a ≤ 65535
    · by_cases h2 : 0 ≤ b ∧ b ≤ 65535
      · have e1 : (!(decide (0 ≤ a) && decide (a ≤ 65535))) = false := by simp [h1.1, h1.2]
        have e2 : (!(decide (0 ≤ b) && decide (b ≤ 65535))) = false := by simp [h2.1, h2.2]
        rw [e1, br_f, br_f, wordS, wordI, Option.bind_some, Option.bind_some, e2, br_f, br_f]
        have l1 : (pw [] a).length = 2 := rfl
        have l2 : (pw (pw [] a) b).length = 4 := by rw [pw_len, l1]
        have l3 : (pw (pw [] a) b ++ [IntKind.wrap .u8 r.1]).length = 5 := by rw [List.length_append, l2]; rfl
        have l4 : (pw (pw (pw [] a) b ++ [IntKind.wrap .u8 r.1]) r.2.1).length = 7 := by rw [pw_len, l3]
        have l5 : (pw (pw (pw [] a) b ++ [IntKind.wrap .u8 r.1]) r.2.1 ++ [IntKind.wrap .u8 r.2.2.1]).length = 8 := by rw [List.length_append, l4]; rfl
        have d1 : decide (((pw (pw [] a) b).length + [IntKind.wrap .u8 r.1].length) * 1 ≤ 140737488355328) = true := decide_eq_true (by rw [l2]; simp)
        have d2 : decide (((pw (pw (pw [] a) b ++ [IntKind.wrap .u8 r.1]) r.2.1).length + [IntKind.wrap .u8 r.2.2.1].length) * 1 ≤ 140737488355328) = true := decide_eq_true (by rw [l4]; simp)
        obtain ⟨t, t1, t2, t3⟩ := putText hK (pw (pw (pw [] a) b ++ [IntKind.wrap .u8 r.1]) r.2.1 ++ [IntKind.wrap .u8 r.2.2.1]) r.2.2.2.1 (by omega) (by omega)
        rw [ht] at t1
        injection t1 with t1
        subst t1
        rw [if_pos rfl] at t2 t3
        have l6 : (pt (pw (pw (pw [] a) b ++ [IntKind.wrap .u8 r.1]) r.2.1 ++ [IntKind.wrap .u8 r.2.2.1]) r.2.2.2.1).length ≤ 200 := by
          unfold pt
          rw [List.length_append, List.length_append, l5, bytesOf_len]
          simp
          omega
        obtain ⟨s, s1, s2⟩ := sum hK (pt (pw (pw (pw [] a) b ++ [IntKind.wrap .u8 r.1]) r.2.1 ++ [IntKind.wrap .u8 r.2.2.1]) r.2.2.2.1) (by omega)
        rw [putWord_s K [] a (by simp), putWord_i K [] a (by simp), Option.bind_some, Option.bind_some, putWord_s K _ b (by omega), putWord_i K _ b (by omega), Option.bind_some, Option.bind_some, d1, br_t, br_t, putWord_s K _ r.2.1 (by omega), putWord_i K _ r.2.1 (by omega), Option.bind_some, Option.bind_some, d2, br_t, br_t, t2, t3, Option.bind_some, Option.bind_some, s1, s2, Option.bind_some, Option.bind_some, putWord_s K _ s (by omega), putWord_i K _ s (by omega)]
        exact ⟨_, by trivial, by trivial, rfl, rfl, (fun h => by cases h), .inr ⟨_, s, l5, rfl⟩⟩
      · have e2 : (!(decide (0 ≤ b) && decide (b ≤ 65535))) = true := by
          rw [Bool.not_eq_true', Bool.and_eq_false_iff, decide_eq_false_iff_not, decide_eq_false_iff_not]; omega
        by_cases e1 : (!(decide (0 ≤ a) && decide (a ≤ 65535))) = true
        · rw [e1, br_t, br_t]
          exact ⟨[], rfl, rfl, rfl, rfl, fun _ => rfl, .inl rfl⟩
        · rw [Bool.not_eq_true] at e1
          rw [e1, br_f, br_f, wordS, wordI, Option.bind_some, Option.bind_some, e2, br_t, br_t]
          exact ⟨[], rfl, rfl, rfl, rfl, fun _ => rfl, .inl rfl⟩
    · have e1 : (!(decide (0 ≤ a) && decide (a ≤ 65535))) = true := by
        rw [Bool.not_eq_true', Bool.and_eq_false_iff, decide_eq_false_iff_not, decide_eq_false_iff_not]; omega
      rw [e1, br_t, br_t]
      exact ⟨[], by trivial, by trivial, rfl, rfl, fun _ => rfl, .inl rfl⟩
abbrev RC : Type := Int × (Int × (S_impl_Rec × (Bool × Unit)))
def norec : RC := (0, (0, ((0, (0, (0, (⟨#[]⟩, ())))), (false, ()))))
theorem getRec {K : Nat} (hK : maxLen + 2 ≤ K) (x : List Int) (hB : Bytes x) (hl : x.length ≤ 1048576) : ∃ r : RC, g_spec_GetRec K x = some r ∧ g_impl_GetRec K x = some r ∧ r.2.2.1.2.2.2.1.size ≤ 100 := by
  rw [g_spec_GetRec.eq, g_impl_GetRec.eq]
  by_cases h9 : x.length < 9
  · rw [br_true (decide_eq_true (by omega)), br_true (decide_eq_true (by omega))]
    exact ⟨norec, rfl, rfl, by show ByteArray.size (⟨#[]⟩ : ByteArray) ≤ 100; rw [empty_size]; omega⟩
  obtain ⟨u, u1, u2, _⟩ := getWord K x 0 hB hl (by omega)
  obtain ⟨v, v1, v2, v3⟩ := getWord K x 2 hB hl (by omega)
  obtain ⟨w, w1, w2, w3⟩ := getWord K x 5 hB hl (by omega)
  obtain ⟨t, t1, t2, t3, t4, t5, t6⟩ := getText hK x 8 hB hl (by omega)
  have e0 : ((0 : Nat) : Int) = 0 := rfl
  have e2 : ((2 : Nat) : Int) = 2 := rfl
  have e5 : ((5 : Nat) : Int) = 5 := rfl
  have e8 : ((8 : Nat) : Int) = 8 := rfl
  rw [e0] at u1 u2
  rw [e2] at v1 v2
  rw [e5] at w1 w2
  rw [e8] at t1 t2
  have d4 : (decide ((0 : Int) ≤ 4) && decide ((4 : Int) < ((x.length : Nat) : Int))) = true := by simp; omega
  have d7 : (decide ((0 : Int) ≤ 7) && decide ((7 : Int) < ((x.length : Nat) : Int))) = true := by simp; omega
  generalize hrec : ((IntKind.wrap .i64 (List.getD x (Int.toNat 4) 0), (w.1, (IntKind.wrap .i64 (List.getD x (Int.toNat 7) 0), (t.1, ())))) : S_impl_Rec) = rec at *
  have hrt : rec.2.2.2.1 = t.1 := by rw [← hrec]
  obtain ⟨c, l, c1, c2, p1, p2, p3, p4⟩ := putRec hK u.1 v.1 rec (by rw [hrt]; exact t4) (by rw [hrt]; exact t3)
  have hlen : l = [] ∨ 11 ≤ l.length := by
    rcases p4 with h | ⟨s8, s, h1, h2⟩
    · exact .inl h
    · refine .inr ?_
      rw [h2, pw_len]
      unfold pt
      rw [List.length_append, List.length_append, h1]
      simp
  have hi : (br (decide (((x.length : Nat) : Int) < 9)) (some norec) ((g_impl_GetWord K x 0).bind fun y_1 => (g_impl_GetWord K x 2).bind fun y_2 => (g_impl_GetWord K x 5).bind fun y_3 => (g_impl_GetText K x 8).bind fun y_4 => br (decide ((0 : Int) ≤ 4) && decide ((4 : Int) < ((x.length : Nat) : Int))) (br (decide ((0 : Int) ≤ 7) && decide ((7 : Int) < ((x.length : Nat) : Int))) ((g_impl_PutRec K y_1.1 y_2.1 (IntKind.wrap .i64 (List.getD x (Int.toNat 4) 0), (y_3.1, (IntKind.wrap .i64 (List.getD x (Int.toNat 7) 0), (y_4.1, ()))))).bind fun y_5 => (g_bytes_Equal K y_5 x).bind fun y_6 => br (!y_6) (some norec) (some (y_1.1, (y_2.1, ((IntKind.wrap .i64 (List.getD x (Int.toNat 4) 0), (y_3.1, (IntKind.wrap .i64 (List.getD x (Int.toNat 7) 0), (y_4.1, ())))), (true, ())))))) none) none)) = br (!strEq (strOf l) (strOf x)) (some norec) (some (u.1, (v.1, (rec, (true, ()))))) := by
    rw [br_false (decide_eq_false (by omega)), u2, Option.bind_some, v2, Option.bind_some, w2, Option.bind_some, t2, Option.bind_some, d4, br_t, d7, br_t, hrec, p2, Option.bind_some, g_bytes_Equal.eq, Option.bind_some]
  have hsz : rec.2.2.2.1.size ≤ 100 := by rw [hrt]; exact t4
  have hnz : norec.2.2.1.2.2.2.1.size ≤ 100 := by show ByteArray.size (⟨#[]⟩ : ByteArray) ≤ 100; rw [empty_size]; omega
  by_cases h11 : x.length < 11
  · refine ⟨norec, by rw [br_true (decide_eq_true (by omega))]; rfl, ?_, hnz⟩
    refine Eq.trans ?_ (hi.trans ?_)
    · rfl
    · rw [strOf_ne (by rcases hlen with rfl | h <;> simp <;> omega)]; rfl
  have hsp : (br (decide (((x.length : Nat) : Int) < 11)) (some norec) ((g_spec_GetWord K x 0).bind fun y_1 => (g_spec_GetWord K x 2).bind fun y_2 => (g_spec_GetWord K x 5).bind fun y_3 => (g_spec_GetText K x 8).bind fun y_4 => br (decide ((0 : Int) ≤ 4) && decide ((4 : Int) < ((x.length : Nat) : Int))) (br (decide ((0 : Int) ≤ 7) && decide ((7 : Int) < ((x.length : Nat) : Int))) (br (!y_4.2.2.1) (some norec) ((g_spec_RecOk K (IntKind.wrap .i64 (List.getD x (Int.toNat 4) 0), (y_3.1, (IntKind.wrap .i64 (List.getD x (Int.toNat 7) 0), (y_4.1, ()))))).bind fun y_5 => br (!y_5) (some norec) ((g_spec_PutRec K y_1.1 y_2.1 (IntKind.wrap .i64 (List.getD x (Int.toNat 4) 0), (y_3.1, (IntKind.wrap .i64 (List.getD x (Int.toNat 7) 0), (y_4.1, ()))))).bind fun y_6 => (g_spec_l1Same K y_6 x).bind fun y_7 => br (!y_7) (some norec) (some (y_1.1, (y_2.1, ((IntKind.wrap .i64 (List.getD x (Int.toNat 4) 0), (y_3.1, (IntKind.wrap .i64 (List.getD x (Int.toNat 7) 0), (y_4.1, ())))), (true, ())))))))) none) none)) = br (!t.2.2.1) (some norec) (br (!c) (some norec) (br (!strEq (strOf l) (strOf x)) (some norec) (some (u.1, (v.1, (rec, (true, ()))))))) := by
    rw [br_false (decide_eq_false (by omega)), u1, Option.bind_some, v1, Option.bind_some, w1, Option.bind_some, t1, Option.bind_some, d4, br_t, d7, br_t, hrec, c1, Option.bind_some, p1, Option.bind_some, g_spec_l1Same.eq, Option.bind_some]
  cases he : strEq (strOf l) (strOf x) with
  | false =>
    refine ⟨norec, ?_, ?_, hnz⟩
    · refine Eq.trans ?_ (hsp.trans ?_)
      · rfl
      · rw [he]; cases t.2.2.1 <;> cases c <;> rfl
    · refine Eq.trans ?_ (hi.trans ?_)
      · rfl
      · rw [he]; rfl
  | true =>
    have hst := (strEq_iff _ _).1 he
    have hll : l.length = x.length := by rw [← strOf_len, hst, strOf_len]
    have hc : c = true := by
      cases hcc : c with
      | true => rfl
      | false => rw [p3 hcc] at hll; simp at hll; omega
    have ht : t.2.2.1 = true := by
      cases htt : t.2.2.1 with
      | true => rfl
      | false =>
        have hz := t5 htt
        rw [← htt]
        refine t6 (by omega) ?_
        rcases p4 with rfl | ⟨s8, s, h1, h2⟩
        · simp at hll; omega
        · have a1 : (tl (strOf l))[8]? = some 0 := by
            rw [tl_strOf, List.getElem?_map, h2]
            unfold pw pt
            rw [hrt, hz, empty_size, List.append_assoc, List.append_assoc, List.getElem?_append_right (by omega), h1]
            rfl
          rw [hst, tl_strOf, List.getElem?_map] at a1
          have h8 : 8 < x.length := by omega
          rw [List.getElem?_eq_getElem h8] at a1
          have b1 := hB _ (List.getElem_mem h8)
          rw [List.getD_eq_getElem?_getD, List.getElem?_eq_getElem h8]
          simp only [Option.map_some, Option.some.injEq] at a1
          have a2 := congrArg UInt8.toNat a1
          rw [UInt8.toNat_ofNat'] at a2
          have : (0 : UInt8).toNat = 0 := rfl
          simp only [Option.getD_some]
          omega
    refine ⟨(u.1, (v.1, (rec, (true, ())))), ?_, ?_, hsz⟩
    · refine Eq.trans ?_ (hsp.trans ?_)
      · rfl
      · rw [he, hc, ht]; rfl
    · refine Eq.trans ?_ (hi.trans ?_)
      · rfl
      · rw [he]; rfl
end F5
