/-  Told: the program's answer is the reference's, and the notes that came in are as they were. -/
import Derived.Test.YtjeadgnoladnjaaSpecFnExactTold
import Derived.Test.YtjeadgnoladnjaaLoops
namespace Go.Proofs.Ytjeadgnoladnjaa.Pure
open Go.RowKit Go.Proofs.YtjeadgnoladnjaaW.PrintWords Go.Proofs.YtjeadgnoladnjaaW.PrintLast Go.Proofs.YtjeadgnoladnjaaW.PrintMore Go.Proofs.Ytjeadgnoladnjaa.PFnExactTold Go.Proofs.Ytjeadgnoladnjaa.Lp

namespace HTold
theorem rd57 (xs : List S57) (i : Nat) (h : i < xs.length) : rd_T57 xs (i : Int) = xs[i] := getD_eq xs z57 i h
theorem rd55 (xs : List S55) (i : Nat) (h : i < xs.length) : rd_T55 xs (i : Int) = xs[i] := getD_eq xs z55 i h
def cv (x : S57) : S55 := ⟨x.f0, x.f1, x.f2, x.f3, x.f4, x.f5, x.f6, x.f7, x.f8⟩
theorem to_ok (xs : List S57) (hn : xs.length ≤ 1954687338268) (k : Nat) (hk : xs.length < k) : laws_toNoteS.f k xs = some (xs.map cv) := by
  unfold laws_toNoteS.f
  rw [if_pos (by omega), if_pos (by omega)]
  refine fill_loop (fun k s i => laws_toNoteS.l0 k xs s i) xs z55 cv 0 (fun k i s hi hk hs => ?_) (fun k s hk => ?_) k (by omega)
  · show laws_toNoteS.l0 (k + 1) xs s (i : Int) = _
    simp only [laws_toNoteS.l0, laws_toNote.f, Option.bind_some]
    rw [if_pos (by omega), if_pos (by omega), if_pos (by omega), wrap_nat hi (by omega), rd57 xs i hi]; rfl
  · show laws_toNoteS.l0 (k + 1) xs s (xs.length : Int) = _
    simp only [laws_toNoteS.l0]; rw [if_neg (by omega)]
theorem eq_refl_ok (xs : List S55) (hn : xs.length ≤ 9223372036854775806) (k : Nat) (hk : xs.length < k) : laws_eqNoteS.f k xs xs = some true := by
  unfold laws_eqNoteS.f
  rw [if_pos rfl]
  obtain ⟨r, h, rfl⟩ := idx_loop (fun k (_ : Unit) i => laws_eqNoteS.l0 k xs xs i) xs.length 0 (fun _ _ => True) (fun r => r = true)
    (fun k i s hk hi _ => by
      refine .inl ⟨(), trivial, ?_⟩
      show laws_eqNoteS.l0 (k + 1) xs xs (i : Int) = laws_eqNoteS.l0 k xs xs ((i + 1 : Nat) : Int)
      simp only [laws_eqNoteS.l0, laws_eqNote.f]
      rw [if_pos (by omega), if_pos (by omega), if_pos (by omega), wrap_nat hi (by omega)]; simp)
    (fun k s hk _ => ⟨true, by show laws_eqNoteS.l0 (k + 1) xs xs (xs.length : Int) = _; simp only [laws_eqNoteS.l0]; rw [if_neg (by omega)], rfl⟩)
    xs.length 0 () k (by omega) (by omega) trivial (by omega)
  exact h
/-- The greatest N of a note of kind 7. -/
def most : List S55 → Int → Int
  | [], m => m
  | x :: r, m => most r (if x.f0 = 7 then (if x.f8 > m then x.f8 else m) else m)
theorem spec_ok (xs : List S55) (hn : xs.length ≤ 9223372036854775806) : Ev (fun k => spec_Told.f k xs) (most xs 0) := by
  unfold spec_Told.f
  have := ev_loop (fun k s i => spec_Told.l0 k xs s i) xs.length (fun i s => most (xs.drop i) s) (fun _ _ => True)
    (fun i s hi _ => by
      refine .inl ⟨_, trivial, by rw [drop_cons xs i hi]; rfl, fun r h => ?_⟩
      show Ev (fun k => spec_Told.l0 k xs s (i : Int)) r
      refine Ev.succ ?_
      simp only [spec_Told.l0, rd55 xs i hi, wrap_nat hi (show xs.length ≤ 9223372036854775807 by omega)]
      simp only [show (i : Int) < (xs.length : Int) by omega, show (0 : Int) ≤ (i : Int) by omega, if_true]
      by_cases h1 : xs[i].f0 = 7
      · by_cases h2 : xs[i].f8 > s <;> simp only [h1, h2, if_true, if_false] at h ⊢ <;> exact h
      · simp only [h1, if_false] at h ⊢; exact h)
    (fun s _ => by
      refine Ev.succ ?_
      simp only [spec_Told.l0, Int.lt_irrefl, if_false, drop_end, most]; exact Ev.now _)
    xs.length 0 0 (by omega) (by omega) trivial
  simpa using this
def pick7 (xs : List S55) : List S55 := xs.filter fun x => x.f0 = 7
theorem pick7_yes {x : S55} {r : List S55} (h : x.f0 = 7) : pick7 (x :: r) = x :: pick7 r := by simp [pick7, h]
theorem pick7_no {x : S55} {r : List S55} (h : ¬ x.f0 = 7) : pick7 (x :: r) = pick7 r := by simp [pick7, h]
theorem pick_ok (xs : List S55) (hn : xs.length ≤ 1954687338267) : Ev (fun k => impl_Pick.f k xs 7) (pick7 xs) := by
  unfold impl_Pick.f
  have := ev_loop (fun k s i => impl_Pick.l0 k 7 s xs (xs.length : Int) i) xs.length (fun i s => s ++ pick7 (xs.drop i)) (fun i s => s.length ≤ i)
    (fun i s hi hs => by
      by_cases h1 : xs[i].f0 = 7
      · refine .inl ⟨s ++ [xs[i]], by simp; omega, by show s ++ pick7 (xs.drop i) = (s ++ [xs[i]]) ++ pick7 (xs.drop (i + 1)); rw [drop_cons xs i hi, pick7_yes h1, List.append_assoc]; rfl, fun r h => ?_⟩
        show Ev (fun k => impl_Pick.l0 k 7 s xs (xs.length : Int) (i : Int)) r
        refine Ev.succ ?_
        simp only [impl_Pick.l0, rd55 xs i hi, wrap_nat hi (show xs.length ≤ 9223372036854775807 by omega)]
        simp only [show (i : Int) < (xs.length : Int) by omega, show (0 : Int) ≤ (i : Int) by omega, if_true, show s.length < 1954687338268 by omega]
        exact Ev.ite_pos h1 h
      · refine .inl ⟨s, by omega, by show s ++ pick7 (xs.drop i) = s ++ pick7 (xs.drop (i + 1)); rw [drop_cons xs i hi, pick7_no h1], fun r h => ?_⟩
        show Ev (fun k => impl_Pick.l0 k 7 s xs (xs.length : Int) (i : Int)) r
        refine Ev.succ ?_
        simp only [impl_Pick.l0, rd55 xs i hi, wrap_nat hi (show xs.length ≤ 9223372036854775807 by omega)]
        simp only [show (i : Int) < (xs.length : Int) by omega, show (0 : Int) ≤ (i : Int) by omega, if_true, h1, if_false]
        exact h)
    (fun s _ => by
      refine Ev.succ ?_
      simp only [impl_Pick.l0, Int.lt_irrefl, if_false, drop_end, pick7, List.filter_nil, List.append_nil]; exact Ev.now _)
    xs.length 0 [] (by omega) (by omega) (by simp)
  simpa using this
def mxs : List S55 → Int → Int
  | [], m => m
  | x :: r, m => mxs r (mx m x.f8)
theorem mxs_most : ∀ (xs : List S55) (m : Int), mxs (pick7 xs) m = most xs m
  | [], m => rfl
  | x :: r, m => by
    by_cases h : x.f0 = 7
    · rw [pick7_yes h]
      show mxs (pick7 r) (mx m x.f8) = most r _
      rw [mxs_most r, if_pos h]
      congr 1
    · rw [pick7_no h, mxs_most r]
      show most r m = most r (if x.f0 = 7 then _ else m)
      rw [if_neg h]
theorem impl_ok (xs : List S55) (hn : xs.length ≤ 1954687338267) : Ev (fun k => impl_Told.f k xs) (most xs 0) := by
  unfold impl_Told.f
  refine Ev.bind (pick_ok xs hn) ?_
  have hp : (pick7 xs).length ≤ xs.length := List.length_filter_le _ _
  have := ev_loop (fun k s i => impl_Told.l0 k s (pick7 xs) ((pick7 xs).length : Int) i) (pick7 xs).length (fun i s => mxs ((pick7 xs).drop i) s) (fun _ _ => True)
    (fun i s hi _ => by
      refine .inl ⟨_, trivial, by rw [drop_cons _ i hi]; rfl, fun r h => ?_⟩
      show Ev (fun k => impl_Told.l0 k s (pick7 xs) ((pick7 xs).length : Int) (i : Int)) r
      refine Ev.succ ?_
      simp only [impl_Told.l0, rd55 _ i hi, wrap_nat hi (show (pick7 xs).length ≤ 9223372036854775807 by omega)]
      simp only [show (i : Int) < ((pick7 xs).length : Int) by omega, show (0 : Int) ≤ (i : Int) by omega, if_true]
      exact h)
    (fun s _ => by
      refine Ev.succ ?_
      simp only [impl_Told.l0, Int.lt_irrefl, if_false, drop_end, mxs]; exact Ev.now _)
    (pick7 xs).length 0 0 (by omega) (by omega) trivial
  rw [List.drop_zero, mxs_most] at this
  exact this
end HTold
open HTold in
theorem FnExactTold : SFnExactTold.Pure := by
  intro xs ⟨hb, _, _⟩
  have hl : xs.length ≤ 1954687338267 := by omega
  have hm : (xs.map cv).length = xs.length := by simp
  refine Ev.rounds (r := true) ?_
  unfold laws_FnExactTold.f laws_szNoteS.f
  have cc : ∀ (c : Prop) [Decidable c] (a b : Int), ∃ t, (if c then some a else some b) = some t := fun c _ a b => by split <;> exact ⟨_, rfl⟩
  obtain ⟨t, ht⟩ := cc (wrap64 (1048576 - (xs.length : Int)) < 0) (-1) (wrap64 (1048576 - (xs.length : Int)))
  rw [ht]; simp only [Option.bind_some]
  by_cases h0 : t < 0
  · simp only [h0, if_true]; exact Ev.now _
  · simp only [h0, if_false]
    refine Ev.bind (Ev.at_ (fun k hk => to_ok xs (by omega) k hk)) ?_
    refine Ev.bind (spec_ok _ (by omega)) ?_
    refine Ev.bind (Ev.at_ (fun k hk => to_ok xs (by omega) k hk)) ?_
    refine Ev.bind (impl_ok _ (by omega)) ?_
    simp only [if_true]
    refine Ev.bind (Ev.at_ (fun k hk => to_ok xs (by omega) k hk)) ?_
    refine Ev.bind (Ev.at_ (fun k hk => eq_refl_ok _ (by omega) k hk)) ?_
    simp only [if_true]; exact Ev.now _

end Go.Proofs.Ytjeadgnoladnjaa.Pure
