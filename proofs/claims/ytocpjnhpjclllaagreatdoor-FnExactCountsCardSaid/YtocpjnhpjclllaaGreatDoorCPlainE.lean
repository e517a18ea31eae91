/- Both programs read the same configurations. -/
import Derived.Test.YtocpjnhpjclllaaGreatDoorCPlainD
set_option linter.unusedSimpArgs false
namespace F5
open Go Go.Fil Go.Proofs Go.Fil.Cf
set_option maxRecDepth 100000
set_option linter.unusedVariables false
abbrev Q4 : Type := Int × (Int × (Int × (Int × Unit)))
abbrev PC : Type := List S_impl_Db × (Bool × Unit)
def refuse : PC := ([], (false, ()))
/-! ### the program's -/
def setc : Nat → Int → Q4 → Q4
  | 0, n, o => (n, o.2)
  | 1, n, o => (o.1, (n, o.2.2))
  | 2, n, o => (o.1, (o.2.1, (n, o.2.2.2)))
  | _, n, o => (o.1, (o.2.1, (o.2.2.1, (n, o.2.2.2.2))))
def comps : List (List UInt8) → Nat → Q4 → Q4
  | [], _, o => o
  | x :: r, j, o => comps r (j + 1) (setc j ((pnum 20 x).getD 0) o)
def iEnt (p : List UInt8) : S_impl_Db := match cutAt 58 p with
  | none => (fl p, comps (splitN 47 3 []) 0 (0, (0, (0, (0, ())))))
  | some (a, b) => (fl a, comps (splitN 47 3 b) 0 (0, (0, (0, (0, ())))))
theorem enc_getD (o : Option Int) : (enc o).1 = o.getD 0 := by cases o <;> rfl
theorem nums_loop {K : Nat} (hK : maxLen + 2 ≤ K) (n0 : Nat) (x0 : ByteArray) (ps : List ByteArray) (v : Int) (y2 : ByteArray × (ByteArray × (Bool × Unit))) (xs : List (List UInt8)) (hx : xs.length ≤ 4) (o : List S_impl_Db) (ho : o.length ≤ 2000000) : ∀ (r : List (List UInt8)) (j k : Nat) (q : Q4), xs.drop j = r → j + r.length = xs.length → r.length < k →
    L_impl_ParseConf_8 K k n0 x0 ps v y2 (xs.map fl) (j : Int) o q = L_impl_ParseConf_3 K n0 x0 ps (IntKind.wrap .i64 (v + 1)) (o ++ [(y2.1, comps r j q)])
  | [], j, k + 1, q, h, hj, hk => by
    rw [L_impl_ParseConf_8.step, br_false (decide_eq_false (by simp at hj ⊢; omega)), br_true (decide_eq_true (by simp; omega))]
    rfl
  | x :: r, j, k + 1, q, h, hj, hk => by
    have hlt : j < xs.length := by simp at hj; omega
    have hd : xs.drop j = xs[j] :: xs.drop (j + 1) := List.drop_eq_getElem_cons hlt
    rw [hd] at h
    injection h with hd1 hr
    have hat : List.getD (xs.map fl) j (⟨#[]⟩ : ByteArray) = fl x := by
      rw [List.getD_eq_getElem?_getD, List.getElem?_map, List.getElem?_eq_getElem hlt, hd1]; rfl
    rw [L_impl_ParseConf_8.step, br_true (decide_eq_true (by simp; omega)), br_true (by simp; omega), show (j : Int).toNat = j by omega, hat, parseNum_i hK _ 20 (by omega), Option.bind_some, tl_fl, wrap_id (by omega) (by omega), enc_getD]
    have := nums_loop hK n0 x0 ps v y2 xs hx o ho r (j + 1) k (setc j ((pnum 20 x).getD 0) q) hr (by simp at hj; omega) (by simp at hk; omega)
    rw [Int.natCast_add] at this
    rw [comps]
    match j, hlt, this with
    | 0, _, this => exact this
    | 1, _, this => exact this
    | 2, _, this => exact this
    | 3, _, this => exact this
    | j + 4, hlt, _ => omega
  | _, _, 0, _, _, _, h => absurd h (Nat.not_lt_zero _)
noncomputable def fin_i (K : Nat) (x0 : ByteArray) (o : List S_impl_Db) : Option PC :=
  br (strEq x0 (⟨#[]⟩ : ByteArray)) (some ([], (false, ()))) ((g_impl_ConfText K o).bind fun y => br (!strEq y x0) (some ([], (false, ()))) (some (o, (true, ()))))
theorem pieces_i {K : Nat} (hK : maxLen + 2 ≤ K) (x0 : ByteArray) (ps : List (List UInt8)) (hp : ps.length ≤ 1048577) (hq : ∀ p ∈ ps, p.length ≤ 1048576) : ∀ (r : List (List UInt8)) (i k : Nat) (o : List S_impl_Db), ps.drop i = r → i + r.length = ps.length → o.length ≤ i → r.length < k →
    L_impl_ParseConf_3 K k x0 (ps.map fl) (i : Int) o = fin_i K x0 (o ++ r.map iEnt)
  | [], i, k + 1, o, h, hi, ho, hk => by
    rw [L_impl_ParseConf_3.step, br_false (decide_eq_false (by simp at hi ⊢; omega)), List.map_nil, List.append_nil]
    rfl
  | x :: r, i, k + 1, o, h, hi, ho, hk => by
    have hm : maxLen = 2 ^ 63 - 1 := rfl
    have hlt : i < ps.length := by simp at hi; omega
    have hd : ps.drop i = ps[i] :: ps.drop (i + 1) := List.drop_eq_getElem_cons hlt
    rw [hd] at h
    injection h with hd1 hr
    have hat : List.getD (ps.map fl) i (⟨#[]⟩ : ByteArray) = fl x := by
      rw [List.getD_eq_getElem?_getD, List.getElem?_map, List.getElem?_eq_getElem hlt, hd1]; rfl
    have hxl : x.length ≤ 1048576 := hq x (by rw [← hd1]; exact List.getElem_mem hlt)
    have ih := fun o' ho' => pieces_i hK x0 ps hp hq r (i + 1) k o' hr (by simp at hi; omega) ho' (by simp at hk; omega)
    rw [Int.natCast_add] at ih
    have c58 : (⟨#[58]⟩ : ByteArray) = fl [58] := rfl
    have c47 : (⟨#[47]⟩ : ByteArray) = fl [47] := rfl
    rw [L_impl_ParseConf_3.step, br_true (decide_eq_true (by simp; omega)), br_true (by simp; omega), show (i : Int).toNat = i by omega, hat, c58, cut_eq K (fl x) (by rw [fl_size]; omega) 58, Option.bind_some, tl_fl, c47]
    rw [List.map_cons]
    cases hc : cutAt 58 x with
    | none =>
      simp only
      have hs : (fl []).size ≤ 1048576 := by rw [fl_size]; simp
      rw [split4_i hK (fl []) hs 47, Option.bind_some, tl_fl]
      have e := nums_loop hK k x0 (ps.map fl) (i : Int) (fl x, (fl [], (false, ()))) (splitN 47 3 []) (splitN_len 47 3 []) o (by omega) (splitN 47 3 []) 0 K (0, (0, (0, (0, ())))) (by simp) (by simp) (by have := splitN_len 47 3 []; omega)
      refine e.trans ?_
      rw [wrap_id (by omega) (by omega)]
      refine (ih _ (by simp; omega)).trans ?_
      have : iEnt x = (fl x, comps (splitN 47 3 []) 0 (0, (0, (0, (0, ()))))) := by unfold iEnt; rw [hc]
      rw [this]
      simp
    | some ab =>
      obtain ⟨a, b⟩ := ab
      simp only
      obtain ⟨g1, _⟩ := cut_some 58 x a b hc
      have hbl : b.length ≤ 1048576 := by rw [g1] at hxl; simp at hxl; omega
      have hs : (fl b).size ≤ 1048576 := by rw [fl_size]; exact hbl
      rw [split4_i hK (fl b) hs 47, Option.bind_some, tl_fl]
      have e := nums_loop hK k x0 (ps.map fl) (i : Int) (fl a, (fl b, (true, ()))) (splitN 47 3 b) (splitN_len 47 3 b) o (by omega) (splitN 47 3 b) 0 K (0, (0, (0, (0, ())))) (by simp) (by simp) (by have := splitN_len 47 3 b; omega)
      refine e.trans ?_
      rw [wrap_id (by omega) (by omega)]
      refine (ih _ (by simp; omega)).trans ?_
      have : iEnt x = (fl a, comps (splitN 47 3 b) 0 (0, (0, (0, (0, ()))))) := by unfold iEnt; rw [hc]
      rw [this]
      simp
  | _, _, 0, _, _, _, _, h => absurd h (Nat.not_lt_zero _)
theorem iEnt_name (p : List UInt8) : (iEnt p).1.size ≤ p.length := by
  unfold iEnt
  split
  · rw [fl_size]; exact Nat.le_refl _
  · rename_i a b h
    obtain ⟨g1, _⟩ := cut_some 58 p a b h
    rw [fl_size, g1]
    simp
def lI (s : ByteArray) : List S_impl_Db := (splitBy 59 (tl s)).map iEnt
theorem parse_i {K : Nat} (hK : maxLen + 2 ≤ K) (s : ByteArray) (hs : s.size ≤ 100) :
    (CfOk (lI s) ∧ txt (lI s) = tl s ∧ s ≠ ⟨#[]⟩ → g_impl_ParseConf K s = some (lI s, (true, ()))) ∧ (¬ (CfOk (lI s) ∧ txt (lI s) = tl s ∧ s ≠ ⟨#[]⟩) → g_impl_ParseConf K s = some refuse) := by
  have hm : maxLen = 2 ^ 63 - 1 := rfl
  have hp := splitBy_len 59 (tl s)
  rw [tl_len] at hp
  have hq : ∀ p ∈ splitBy 59 (tl s), p.length ≤ 1048576 := fun p hp => by
    have := (split_piece 59 (tl s) p hp).1
    rw [tl_len] at this
    omega
  have c59 : (⟨#[59]⟩ : ByteArray) = fl [59] := rfl
  have hrun : g_impl_ParseConf K s = fin_i K s (lI s) := by
    rw [g_impl_ParseConf.eq, c59, split_i hK s (by omega) 59, Option.bind_some]
    exact pieces_i hK s (splitBy 59 (tl s)) (by omega) hq (splitBy 59 (tl s)) 0 K [] (by simp) (by simp) (by simp) (by omega)
  obtain ⟨t1, t2⟩ := confText hK (lI s) (by rw [lI, List.length_map]; omega) (fun d hd => by
    obtain ⟨p, h1, rfl⟩ := List.mem_map.1 hd
    exact Nat.le_trans (iEnt_name p) (hq p h1))
  rw [hrun, fin_i]
  constructor
  · rintro ⟨h1, h2, h3⟩
    rw [br_false (strEq_f h3), t1 h1, Option.bind_some, h2, fl_tl, strEq_t, br_false (c := !true) rfl]
  · intro h
    by_cases h3 : s = ⟨#[]⟩
    · rw [br_true ((strEq_iff _ _).2 h3)]; rfl
    · rw [br_false (strEq_f h3)]
      by_cases h1 : CfOk (lI s)
      · rw [t1 h1, Option.bind_some, strEq_f (fun e => h ⟨h1, by have := congrArg tl e; rwa [tl_fl] at this, h3⟩), br_true (c := !false) rfl]; rfl
      · rw [t2 h1, Option.bind_some, strEq_f (fun e => h3 e.symm), br_true (c := !false) rfl]; rfl
/-! ### the reference's -/
def sNums (b : List UInt8) : Option Q4 := match splitBy 47 b with
  | [w, x, y, z] => match pnum 99 w, pnum 99 x, pnum 99 y, pnum 99 z with
    | some w, some x, some y, some z => some (w, (x, (y, (z, ()))))
    | _, _, _, _ => none
  | _ => none
def sEnt (p : List UInt8) : Option S_impl_Db := match splitBy 58 p with
  | [a, b] => (sNums b).map fun q => (fl a, q)
  | _ => none
def sAll : List (List UInt8) → Option (List S_impl_Db)
  | [] => some []
  | p :: r => match sEnt p with
    | none => none
    | some d => match sAll r with
      | none => none
      | some l => some (d :: l)
noncomputable def fin_s (K : Nat) : Option (List S_impl_Db) → Option PC
  | none => some refuse
  | some o => (g_spec_ConfOk K o).bind fun y => br (!y) (some ([], (false, ()))) (some (o, (true, ())))
theorem step16 {K : Nat} (hK : maxLen + 2 ≤ K) (n0 k : Nat) (v : Int) (j : Nat) (hj : j < 4) (ps : List ByteArray) (o : List S_impl_Db) (u : List ByteArray) (xs : List (List UInt8)) (hx : xs.length = 4) (q : List Int) (hq : q.length = 4) (x : List UInt8) (hxj : xs[j]? = some x) :
    L_spec_ParseConf_16 K (k + 1) n0 v (j : Int) ps o u (xs.map fl) q = match pnum 99 x with
      | none => some refuse
      | some n => L_spec_ParseConf_16 K k n0 v ((j + 1 : Nat) : Int) ps o u (xs.map fl) (q.set j n) := by
  have hat : List.getD (xs.map fl) j (⟨#[]⟩ : ByteArray) = fl x := by
    rw [List.getD_eq_getElem?_getD, List.getElem?_map, hxj]; rfl
  rw [L_spec_ParseConf_16.step, br_true (decide_eq_true (by omega)), br_true (by simp; omega), show (j : Int).toNat = j by omega, hat, parseNum_s hK _ 99 (by omega), Option.bind_some, tl_fl, wrap_id (by omega) (by omega)]
  cases pnum 99 x with
  | none => rfl
  | some n =>
    show br (!true) _ _ = _
    rw [br_false (c := !true) rfl, br_true (by simp; omega)]
    rfl
theorem pieces_s {K : Nat} (hK : maxLen + 2 ≤ K) (ps : List (List UInt8)) (hp : ps.length ≤ 1048577) (hq : ∀ p ∈ ps, p.length ≤ 1048576) : ∀ (r : List (List UInt8)) (i k : Nat) (o : List S_impl_Db), ps.drop i = r → i + r.length = ps.length → o.length ≤ i → r.length < k →
    L_spec_ParseConf_6 K k (i : Int) (ps.map fl) o = fin_s K ((sAll r).map fun l => o ++ l)
  | [], i, k + 1, o, h, hi, ho, hk => by
    rw [L_spec_ParseConf_6.step, br_false (decide_eq_false (by simp at hi ⊢; omega)), sAll, Option.map_some, List.append_nil]
    rfl
  | p :: r, i, k + 1, o, h, hi, ho, hk => by
    have hm : maxLen = 2 ^ 63 - 1 := rfl
    have hlt : i < ps.length := by simp at hi; omega
    have hd : ps.drop i = ps[i] :: ps.drop (i + 1) := List.drop_eq_getElem_cons hlt
    rw [hd] at h
    injection h with hd1 hr
    have hat : List.getD (ps.map fl) i (⟨#[]⟩ : ByteArray) = fl p := by
      rw [List.getD_eq_getElem?_getD, List.getElem?_map, List.getElem?_eq_getElem hlt, hd1]; rfl
    have hxl : p.length ≤ 1048576 := hq p (by rw [← hd1]; exact List.getElem_mem hlt)
    have ih := fun o' ho' => pieces_s hK ps hp hq r (i + 1) k o' hr (by simp at hi; omega) ho' (by simp at hk; omega)
    rw [Int.natCast_add] at ih
    have s58 := split_s hK (fl p) (by rw [fl_size]; omega) 58
    have e58 : (((58 : UInt8).toNat : Nat) : Int) = 58 := rfl
    have e47 : (((47 : UInt8).toNat : Nat) : Int) = 47 := rfl
    rw [e58] at s58
    rw [L_spec_ParseConf_6.step, br_true (decide_eq_true (by simp; omega)), br_true (by simp; omega), show (i : Int).toNat = i by omega, hat, s58, Option.bind_some, sp, tl_fl, sAll]
    match h58 : splitBy 58 p with
    | [] => exact absurd h58 (splitBy_ne 58 p)
    | [a] =>
      have hE : sEnt p = none := by simp [sEnt, h58]
      rw [hE]; rfl
    | a :: b :: c :: t =>
      have hE : sEnt p = none := by simp [sEnt, h58]
      rw [br_true (bne_true (by simp; omega)), hE]; rfl
    | [a, b] =>
      have hE : sEnt p = (sNums b).map fun q => (fl a, q) := by simp [sEnt, h58]
      rw [hE]
      have hb := (split_piece 58 p b (by rw [h58]; simp)).1
      have s47 := split_s hK (fl b) (by rw [fl_size]; omega) 47
      rw [e47] at s47
      have hb1 : List.getD ([a, b].map fl) (Int.toNat 1) (⟨#[]⟩ : ByteArray) = fl b := rfl
      rw [br_false (bne_false (by simp)), br_true (by simp), hb1, s47, Option.bind_some, sp, tl_fl]
      match h47 : splitBy 47 b with
      | [] => exact absurd h47 (splitBy_ne 47 b)
      | [_] =>
        have hN : sNums b = none := by simp [sNums, h47]
        rw [hN]; rfl
      | [_, _] =>
        have hN : sNums b = none := by simp [sNums, h47]
        rw [hN]; rfl
      | [_, _, _] =>
        have hN : sNums b = none := by simp [sNums, h47]
        rw [hN]; rfl
      | _ :: _ :: _ :: _ :: _ :: t =>
        have hN : sNums b = none := by simp [sNums, h47]
        rw [br_true (bne_true (by simp; omega)), hN]; rfl
      | [w, x, y, z] =>
        obtain ⟨K', rfl⟩ : ∃ m, K = m + 1 + 1 + 1 + 1 + 1 := ⟨K - 5, by omega⟩
        rw [br_false (bne_false (by simp))]
        refine (step16 hK k _ _ 0 (by omega) _ _ _ [w, x, y, z] rfl [0, 0, 0, 0] rfl w rfl).trans ?_
        cases hw : pnum 99 w with
        | none =>
          have hN : sNums b = none := by simp [sNums, h47, hw]
          rw [hN]; rfl
        | some nw =>
          refine (step16 hK k _ _ 1 (by omega) _ _ _ [w, x, y, z] rfl [nw, 0, 0, 0] rfl x rfl).trans ?_
          cases hx : pnum 99 x with
          | none =>
            have hN : sNums b = none := by simp [sNums, h47, hw, hx]
            rw [hN]; rfl
          | some nx =>
            refine (step16 hK k _ _ 2 (by omega) _ _ _ [w, x, y, z] rfl [nw, nx, 0, 0] rfl y rfl).trans ?_
            cases hy : pnum 99 y with
            | none =>
              have hN : sNums b = none := by simp [sNums, h47, hw, hx, hy]
              rw [hN]; rfl
            | some ny =>
              refine (step16 hK k _ _ 3 (by omega) _ _ _ [w, x, y, z] rfl [nw, nx, ny, 0] rfl z rfl).trans ?_
              cases hz : pnum 99 z with
              | none =>
                have hN : sNums b = none := by simp [sNums, h47, hw, hx, hy, hz]
                rw [hN]; rfl
              | some nz =>
                have hN : sNums b = some (nw, (nx, (ny, (nz, ())))) := by simp [sNums, h47, hw, hx, hy, hz]
                rw [hN]
                show L_spec_ParseConf_16 _ (K' + 1) k _ ((4 : Nat) : Int) _ _ _ _ [nw, nx, ny, nz] = _
                rw [L_spec_ParseConf_16.step, br_false (by decide), br_true (by simp), br_true (by simp), br_true (by simp), br_true (by simp), br_true (by simp), br_true (decide_eq_true (by simp; omega)), wrap_id (by omega) (by omega)]
                refine (ih _ (by simp; omega)).trans ?_
                cases sAll r with
                | none => rfl
                | some l => simp [fin_s]
  | _, _, 0, _, _, _, _, h => absurd h (Nat.not_lt_zero _)
theorem parse_s {K : Nat} (hK : maxLen + 2 ≤ K) (s : ByteArray) (hs : s.size ≤ 100) : g_spec_ParseConf K s = fin_s K (sAll (splitBy 59 (tl s))) := by
  have hm : maxLen = 2 ^ 63 - 1 := rfl
  have hp := splitBy_len 59 (tl s)
  rw [tl_len] at hp
  have hq : ∀ p ∈ splitBy 59 (tl s), p.length ≤ 1048576 := fun p hp => by
    have := (split_piece 59 (tl s) p hp).1
    rw [tl_len] at this
    omega
  have s59 := split_s hK s (by omega) 59
  have e59 : (((59 : UInt8).toNat : Nat) : Int) = 59 := rfl
  rw [e59] at s59
  rw [g_spec_ParseConf.eq, br_false (decide_eq_false (by omega)), s59, Option.bind_some]
  refine (pieces_s hK (splitBy 59 (tl s)) (by omega) hq (splitBy 59 (tl s)) 0 K [] (by simp) (by simp) (by simp) (by omega)).trans ?_
  cases sAll (splitBy 59 (tl s)) <;> simp
end F5
