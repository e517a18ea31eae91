/-  Answers: the program (a map of the leases' states) comes to what the reference comes to (a look back at each note). -/
import Derived.Test.YtgcelhejmpcchaaSpecFnExactAnswers
import Derived.Test.YtgcelhejmpcchaaLoops
namespace Go.Proofs.Ytgcelhejmpcchaa.Pure
open Go.RowKit Go.Proofs.YtgcelhejmpcchaaW.PrintWords Go.Proofs.YtgcelhejmpcchaaW.PrintLast Go.Proofs.YtgcelhejmpcchaaW.PrintMore Go.Proofs.Ytgcelhejmpcchaa.PFnExactAnswers Go.Proofs.Ytgcelhejmpcchaa.Lp
set_option linter.unusedSimpArgs false
set_option linter.unusedVariables false

namespace HAnswers
theorem rd65 (xs : List S65) (i : Nat) (h : i < xs.length) : rd_T65 xs (i : Int) = xs[i] := getD_eq xs z65 i h
theorem rd63 (xs : List S63) (i : Nat) (h : i < xs.length) : rd_T63 xs (i : Int) = xs[i] := getD_eq xs z63 i h
def cv (x : S65) : S63 := ⟨x.f0, x.f1, x.f2, x.f3, x.f4, x.f5, x.f6, x.f7, x.f8⟩
theorem to_ok (xs : List S65) (hn : xs.length ≤ 1954687338268) (k : Nat) (hk : xs.length < k) : laws_toNoteS.f k xs = some (xs.map cv) := by
  unfold laws_toNoteS.f
  rw [if_pos (by omega), if_pos (by omega)]
  refine fill_loop (fun k s i => laws_toNoteS.l0 k xs s i) xs z63 cv 0 (fun k i s hi hk hs => ?_) (fun k s hk => ?_) k (by omega)
  · show laws_toNoteS.l0 (k + 1) xs s (i : Int) = _
    simp only [laws_toNoteS.l0, laws_toNote.f, Option.bind_some]
    rw [if_pos (by omega), if_pos (by omega), if_pos (by omega), wrap_nat hi (by omega), rd65 xs i hi]; rfl
  · show laws_toNoteS.l0 (k + 1) xs s (xs.length : Int) = _
    simp only [laws_toNoteS.l0]; rw [if_neg (by omega)]
theorem eq_refl_ok (xs : List S63) (hn : xs.length ≤ 9223372036854775806) (k : Nat) (hk : xs.length < k) : laws_eqNoteS.f k xs xs = some true := by
  unfold laws_eqNoteS.f
  rw [if_pos rfl]
  obtain ⟨r, h, rfl⟩ := idx_loop (fun k (_ : Unit) i => laws_eqNoteS.l0 k xs xs i) xs.length 0 (fun _ _ => True) (fun r => r = true)
    (fun k i s hk hi _ => by
      refine .inl ⟨(), trivial, ?_⟩
      show laws_eqNoteS.l0 (k + 1) xs xs (i : Int) = laws_eqNoteS.l0 k xs xs ((i + 1 : Nat) : Int)
      simp only [laws_eqNoteS.l0, laws_eqNote.f]
      rw [if_pos (by omega), if_pos (by omega), if_pos (by omega), wrap_nat hi (by omega)]; simp)
    (fun k s hk _ => ⟨true, by show laws_eqNoteS.l0 (k + 1) xs xs (xs.length : Int) = _; simp only [laws_eqNoteS.l0]; rw [if_neg (by omega)], rfl⟩)
    xs.length 0 () k (by omega) (by omega) trivial (by omega)
  exact h
/-- What the reference's look back at the notes ahead comes to. -/
def kindOf : List S63 → Int → Int → Int
  | [], _, q => q
  | m :: r, ls, q => if m.f7 = ls then (if m.f0 = 2 then kindOf r ls 2 else if m.f0 = 3 then (if m.f8 = 5 then kindOf r ls 4 else kindOf r ls q) else kindOf r ls q) else kindOf r ls q
theorem kindOf_append : ∀ (a b : List S63) (ls q : Int), kindOf (a ++ b) ls q = kindOf b ls (kindOf a ls q)
  | [], _, _, _ => rfl
  | m :: r, b, ls, q => by
    simp only [List.cons_append, kindOf]
    split
    · split
      · exact kindOf_append r b ls 2
      · split
        · split
          · exact kindOf_append r b ls 4
          · exact kindOf_append r b ls q
        · exact kindOf_append r b ls q
    · exact kindOf_append r b ls q
/-- A lease's state as the reference's number. -/
def code (x : Int) : Int := if x = 1 then 2 else if x = 2 then 4 else 3
def Ok3 (f : Int → Int) : Prop := ∀ x, f x = 0 ∨ f x = 1 ∨ f x = 2
theorem code_2 {x : Int} (h : x = 0 ∨ x = 1 ∨ x = 2) : code x = 2 ↔ x = 1 := by unfold code; rcases h with rfl | rfl | rfl <;> decide
theorem code_4 {x : Int} (h : x = 0 ∨ x = 1 ∨ x = 2) : code x = 4 ↔ x = 2 := by unfold code; rcases h with rfl | rfl | rfl <;> decide
/-- The inner loop. -/
theorem inner_ok (xs : List S63) (i : Nat) (hi : i ≤ xs.length) (hn : xs.length ≤ 9223372036854775806) (n0 n1 n2 n3 n4 n5 n6 n7 n8 : Int) (r : Bool)
    (hend : Ev (fun k => spec_Answers.l1 k xs (i : Int) (kindOf (xs.take i) n7 3) (i : Int) n0 n1 n2 n3 n4 n5 n6 n7 n8) r) : Ev (fun k => spec_Answers.l1 k xs (i : Int) 3 0 n0 n1 n2 n3 n4 n5 n6 n7 n8) r := by
  have key : ∀ (d j : Nat) (q : Int), i - j = d → j ≤ i → kindOf ((xs.take i).drop j) n7 q = kindOf (xs.take i) n7 3 → Ev (fun k => spec_Answers.l1 k xs (i : Int) q (j : Int) n0 n1 n2 n3 n4 n5 n6 n7 n8) r := by
    intro d
    induction d with
    | zero =>
      intro j q hd hj hq
      obtain rfl : j = i := by omega
      rw [List.drop_of_length_le (by simp; omega)] at hq
      rw [show q = kindOf (xs.take j) n7 3 from hq]
      exact hend
    | succ d ih =>
      intro j q hd hj hq
      have hjx : j < xs.length := by omega
      have hlt : ((j : Int) < (i : Int)) = True := eq_true (by omega)
      have h0 : ((0 : Int) ≤ (j : Int)) = True := eq_true (by omega)
      have hlt2 : ((j : Int) < (xs.length : Int)) = True := eq_true (by omega)
      have hw := wrap_nat hjx (show xs.length ≤ 9223372036854775807 by omega)
      have hrd := rd63 xs j hjx
      rw [List.drop_eq_getElem_cons (show j < (xs.take i).length by simp; omega)] at hq
      simp only [List.getElem_take] at hq
      replace ih : ∀ q, kindOf ((xs.take i).drop (j + 1)) n7 q = kindOf (xs.take i) n7 3 → Ev (fun k => spec_Answers.l1 k xs (i : Int) q ((j + 1 : Nat) : Int) n0 n1 n2 n3 n4 n5 n6 n7 n8) r := fun q hq => ih (j + 1) q (by omega) (by omega) hq
      generalize xs[j] = m at hrd hq
      generalize (xs.take i).drop (j + 1) = rest at hq ih
      refine Ev.succ ?_
      simp only [spec_Answers.l1, hlt, h0, hlt2, hrd, if_true]
      refine Ev.ite (fun c7 => Ev.ite (fun c2 => ?_) (fun c2 => Ev.ite (fun c3 => ?_) (fun c3 => ?_))) (fun c7 => ?_)
      · refine Ev.succ ?_
        simp only [spec_Answers.j3, h0, hlt2, hrd, hw, if_true]
        refine Ev.ite_neg (by omega) ?_
        rw [c2]
        exact ih 2 (by rw [← hq]; simp [kindOf, c7, c2])
      · by_cases c8 : m.f8 = 5
        · have e8 : (m.f8 == 5) = true := by simpa using c8
          refine Ev.succ ?_
          simp only [spec_Answers.j3, h0, hlt2, hrd, hw, e8, if_true]
          exact Ev.ite_pos c3 (ih 4 (by rw [← hq]; simp [kindOf, c7, c3, c8]))
        · have e8 : (m.f8 == 5) = false := by simpa using c8
          refine Ev.succ ?_
          simp only [spec_Answers.j3, h0, hlt2, hrd, hw, e8, Bool.false_eq_true, if_false]
          exact ih q (by rw [← hq]; simp [kindOf, c7, c3, c8])
      · refine Ev.succ ?_
        simp only [spec_Answers.j3, hw, Bool.false_eq_true, if_false]
        exact ih q (by rw [← hq]; simp [kindOf, c7, c2, c3])
      · refine Ev.succ ?_
        simp only [spec_Answers.j3, hw, Bool.false_eq_true, if_false]
        exact ih q (by rw [← hq]; simp [kindOf, c7])
  have := key i 0 3 (by omega) (by omega) (by simp)
  simpa using this
theorem spec_ok (xs : List S63) (hn : xs.length ≤ 9223372036854775806) : Ev (fun k => spec_Answers.f k xs) (ans xs (fun _ => 0)) := by
  unfold spec_Answers.f
  have key : ∀ (d i : Nat) (f : Int → Int), xs.length - i = d → i ≤ xs.length → Ok3 f → (∀ ls, kindOf (xs.take i) ls 3 = code (f ls)) → Ev (fun k => spec_Answers.l0 k xs (i : Int)) (ans (xs.drop i) f) := by
    intro d
    induction d with
    | zero =>
      intro i f hd hi hf hk
      obtain rfl : i = xs.length := by omega
      rw [drop_end]
      refine Ev.succ ?_
      simp only [spec_Answers.l0, Int.lt_irrefl, if_false]
      exact Ev.now _
    | succ d ih =>
      intro i f hd hi hf hk
      have hix : i < xs.length := by omega
      have hlt : ((i : Int) < (xs.length : Int)) = True := eq_true (by omega)
      have h0 : ((0 : Int) ≤ (i : Int)) = True := eq_true (by omega)
      have hw := wrap_nat hix (show xs.length ≤ 9223372036854775807 by omega)
      have hrd := rd63 xs i hix
      have hin := fun (n0 n1 n2 n3 n4 n5 n6 n7 n8 : Int) (r : Bool) => inner_ok xs i hi hn n0 n1 n2 n3 n4 n5 n6 n7 n8 r
      have ht : ∀ ls, kindOf (xs.take (i + 1)) ls 3 = kindOf [xs[i]] ls (code (f ls)) := fun ls => by rw [take_succ' _ _ hix, kindOf_append, hk]
      rw [drop_cons xs i hix]
      replace ih : ∀ f' : Int → Int, Ok3 f' → (∀ ls, kindOf [xs[i]] ls (code (f ls)) = code (f' ls)) → Ev (fun k => spec_Answers.l0 k xs ((i + 1 : Nat) : Int)) (ans (xs.drop (i + 1)) f') := fun f' h1 h2 => ih (i + 1) f' (by omega) (by omega) h1 (fun ls => (ht ls).trans (h2 ls))
      generalize xs[i] = n at hrd ih ht
      generalize xs.drop (i + 1) = rest at ih
      obtain ⟨n0, n1, n2, n3, n4, n5, n6, n7, n8⟩ := n
      have hf7 := hf n7
      have go1 : ∀ r, Ev (fun k => if n0 = 2 then (if code (f n7) = 2 then (some false) else (spec_Answers.l0 k xs ((i + 1 : Nat) : Int))) else (if n0 = 3 then (if code (f n7) = 2 then (spec_Answers.l0 k xs ((i + 1 : Nat) : Int)) else (some false)) else (if code (f n7) = 4 then (spec_Answers.l0 k xs ((i + 1 : Nat) : Int)) else (some false)))) r →
          Ev (fun k => spec_Answers.j1 k xs (i : Int) false n0 n1 n2 n3 n4 n5 n6 n7 n8) r := fun r h => by
        refine Ev.succ ?_
        simp only [spec_Answers.j1, Bool.false_eq_true, if_false]
        refine hin n0 n1 n2 n3 n4 n5 n6 n7 n8 r ?_
        refine Ev.succ ?_
        simp only [spec_Answers.l1, Int.lt_irrefl, if_false, hk, hw]
        exact h
      have go0 : ∀ r, Ev (fun k => spec_Answers.l0 k xs ((i + 1 : Nat) : Int)) r → Ev (fun k => spec_Answers.j1 k xs (i : Int) true n0 n1 n2 n3 n4 n5 n6 n7 n8) r := fun r h => by
        refine Ev.succ ?_
        simp only [spec_Answers.j1, if_true, hw]
        exact h
      refine Ev.succ ?_
      simp only [spec_Answers.l0, hrd, hlt, h0, if_true]
      have okU : ∀ v, v = 1 ∨ v = 2 → Ok3 (upd f n7 v) := fun v hv x => by
        unfold upd
        split
        · rcases hv with rfl | rfl <;> simp
        · exact hf x
      refine Ev.ite (fun c2 => go1 _ (Ev.ite_pos c2 (Ev.ite (fun q => ?_) (fun q => ?_)))) (fun c2 => Ev.ite (fun c4 => go1 _ (Ev.ite_neg c2 (Ev.ite_neg (by omega) (Ev.ite (fun q => ?_) (fun q => ?_))))) (fun c4 => Ev.ite (fun c3 => ?_) (fun c3 => go0 _ ?_)))
      · have q1 := (code_2 hf7).1 q
        exact Ev.now' (by simp [ans, c2, q1])
      · have q1 : ¬ f n7 = 1 := fun e => q ((code_2 hf7).2 e)
        exact Ev.cast (ih (upd f n7 1) (okU 1 (.inl rfl)) (id (fun ls => by
          simp only [kindOf, c2, if_true, upd]
          by_cases e : n7 = ls
          · subst e; simp [code]
          · rw [if_neg e, if_neg (Ne.symm e)]))) (by simp [ans, c2, q1])
      · have q1 := (code_4 hf7).1 q
        exact Ev.cast (ih f hf (id (fun ls => by simp [kindOf, c4]))) (by simp [ans, c4, q1])
      · have q1 : ¬ f n7 = 2 := fun e => q ((code_4 hf7).2 e)
        exact Ev.now' (by simp [ans, c4, q1])
      · by_cases c8 : n8 = 5
        · have e8 : (n8 != 5) = false := by simpa using c8
          simp only [e8]
          refine go1 _ (Ev.ite_neg c2 (Ev.ite_pos c3 (Ev.ite (fun q => ?_) (fun q => ?_))))
          · have q1 := (code_2 hf7).1 q
            exact Ev.cast (ih (upd f n7 2) (okU 2 (.inr rfl)) (id (fun ls => by
              simp only [kindOf, c3, c8, if_true, upd]
              by_cases e : n7 = ls
              · subst e; simp [code]
              · rw [if_neg e, if_neg (Ne.symm e)]))) (by simp [ans, c3, c8, q1])
          · have q1 : ¬ f n7 = 1 := fun e => q ((code_2 hf7).2 e)
            exact Ev.now' (by simp [ans, c3, c8, q1])
        · have e8 : (n8 != 5) = true := by simpa using c8
          simp only [e8]
          exact go0 _ (Ev.cast (ih f hf (id (fun ls => by simp [kindOf, c3, c8]))) (by simp [ans, c3, c8]))
      · exact Ev.cast (ih f hf (id (fun ls => by simp [kindOf, c2, c3]))) (by simp [ans, c2, c3, c4])
  have := key xs.length 0 (fun _ => 0) (by omega) (by omega) (fun _ => .inl rfl) (fun ls => by simp [kindOf, code])
  simpa using this
end HAnswers
open HAnswers in
theorem FnExactAnswers : SFnExactAnswers.Pure := by
  intro xs ⟨hb, _, hx⟩
  have hl : xs.length ≤ 1954687338267 := by omega
  have hm : (xs.map cv).length = xs.length := by simp
  have hwf : ∀ x ∈ xs.map cv, (Lit.int .i64 x.f7).wf = true := fun x hxm => by
    obtain ⟨y, hy, rfl⟩ := List.mem_map.1 hxm
    exact (hx y hy).2.2.2.2.2.2.2.1
  refine Ev.rounds (r := true) ?_
  unfold laws_FnExactAnswers.f laws_szNoteS.f
  have cc : ∀ (c : Prop) [Decidable c] (a b : Int), ∃ t, (if c then some a else some b) = some t := fun c _ a b => by split <;> exact ⟨_, rfl⟩
  obtain ⟨t, ht⟩ := cc (wrap64 (1048576 - (xs.length : Int)) < 0) (-1) (wrap64 (1048576 - (xs.length : Int)))
  rw [ht]; simp only [Option.bind_some]
  have himp : impl_Answers.f (xs.map cv) = some (ans (xs.map cv) (fun _ => 0)) := by
    unfold impl_Answers.f
    rw [if_pos ⟨by omega, hwf⟩]
  refine Ev.ite (fun _ => Ev.now _) (fun _ => ?_)
  refine Ev.bind (Ev.at_ (fun k hk => to_ok xs (by omega) k hk)) ?_
  refine Ev.bind (spec_ok _ (by omega)) ?_
  refine Ev.bind (Ev.at_ (fun k hk => to_ok xs (by omega) k hk)) ?_
  rw [himp]
  simp only [Option.bind_some, bne_self_eq_false, Bool.false_eq_true, if_false]
  refine Ev.bind (Ev.at_ (fun k hk => to_ok xs (by omega) k hk)) ?_
  refine Ev.bind (Ev.at_ (fun k hk => eq_refl_ok _ (by omega) k hk)) ?_
  simp only [if_true]; exact Ev.now _

end Go.Proofs.Ytgcelhejmpcchaa.Pure
