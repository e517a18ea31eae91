/-  Owned: the program comes to what the reference comes to, and the notes are as they were. -/
import Derived.Test.YtjeadgnoladnjaaSpecFnExactOwned
import Derived.Test.YtjeadgnoladnjaaLoops
namespace Go.Proofs.Ytjeadgnoladnjaa.Pure
open Go.RowKit Go.Proofs.YtjeadgnoladnjaaW.PrintWords Go.Proofs.YtjeadgnoladnjaaW.PrintLast Go.Proofs.YtjeadgnoladnjaaW.PrintMore Go.Proofs.Ytjeadgnoladnjaa.PFnExactOwned Go.Proofs.Ytjeadgnoladnjaa.Lp
set_option linter.unusedSimpArgs false
set_option linter.unusedVariables false

namespace HOwned
theorem rd57 (xs : List S57) (i : Nat) (h : i < xs.length) : rd_T57 xs (i : Int) = xs[i] := getD_eq xs z57 i h
theorem rd55 (xs : List S55) (i : Nat) (h : i < xs.length) : rd_T55 xs (i : Int) = xs[i] := getD_eq xs z55 i h
def cv (x : S57) : S55 := ⟨x.f0, x.f1, x.f2, x.f3, x.f4, x.f5, x.f6, x.f7, x.f8⟩
theorem to_ok (xs : List S57) (hn : xs.length ≤ 1954687338268) (k : Nat) (hk : xs.length < k) : laws_toNoteS.f k xs = some (xs.map cv) := by
  unfold laws_toNoteS.f
  rw [if_pos (by omega), if_pos (by omega)]
  refine fill_loop (fun k s i => laws_toNoteS.l0 k xs s i) xs z55 cv 0 (fun k i s hi hk hs => ?_) (fun k s hk => ?_) k (by omega)
  · show laws_toNoteS.l0 (k + 1) xs s (i : Int) = _
    simp only [laws_toNoteS.l0, laws_toNote.f, Option.bind_some]
    rw [if_pos (by omega), if_pos (by omega), if_pos (by omega), wrap_nat hi (by omega), rd57 xs i hi]; rfl
  · show laws_toNoteS.l0 (k + 1) xs s (xs.length : Int) = _
    simp only [laws_toNoteS.l0]; rw [if_neg (by omega)]
theorem eq_refl_ok (xs : List S55) (hn : xs.length ≤ 9223372036854775806) (k : Nat) (hk : xs.length < k) : laws_eqNoteS.f k xs xs = some true := by
  unfold laws_eqNoteS.f
  rw [if_pos rfl]
  obtain ⟨r, h, rfl⟩ := idx_loop (fun k (_ : Unit) i => laws_eqNoteS.l0 k xs xs i) xs.length 0 (fun _ _ => True) (fun r => r = true)
    (fun k i s hk hi _ => by
      refine .inl ⟨(), trivial, ?_⟩
      show laws_eqNoteS.l0 (k + 1) xs xs (i : Int) = laws_eqNoteS.l0 k xs xs ((i + 1 : Nat) : Int)
      simp only [laws_eqNoteS.l0, laws_eqNote.f]
      rw [if_pos (by omega), if_pos (by omega), if_pos (by omega), wrap_nat hi (by omega)]; simp)
    (fun k s hk _ => ⟨true, by show laws_eqNoteS.l0 (k + 1) xs xs (xs.length : Int) = _; simp only [laws_eqNoteS.l0]; rw [if_neg (by omega)], rfl⟩)
    xs.length 0 () k (by omega) (by omega) trivial (by omega)
  exact h
/-- What Owned comes to; found: there was a NoOwn; the last one's house and epoch. -/
def owned : List S55 → Bool → Int → Int → Bool
  | [], _, _, _ => true
  | n :: r, fd, h, e =>
    if 1 ≤ n.f0 ∧ n.f0 ≤ 8 then
      if n.f2 = n.f3 then if n.f1 = n.f4 then
        if n.f0 = 8 then
          if n.f8 = n.f2 then if fd = true ∧ n.f8 ≤ e then false else owned r true n.f1 n.f8 else false
        else if fd = true then if h = n.f1 then if e = n.f2 then owned r fd h e else false else false else false
      else false else false
    else owned r fd h e
theorem isIn_ok (a b c : Int) : impl_isIn.f a b c = some (decide (b ≤ a ∧ a ≤ c)) := by
  unfold impl_isIn.f
  by_cases h : b ≤ a <;> simp [h]
theorem l1In_ok (a b c : Int) : spec_l1In.f a b c = some (decide (b ≤ a ∧ a ≤ c)) := by
  unfold spec_l1In.f
  by_cases h : b ≤ a <;> simp [h]
theorem impl_ok (xs : List S55) (hn : xs.length ≤ 9223372036854775806) : Ev (fun k => impl_Owned.f k xs) (owned xs false 0 0) := by
  unfold impl_Owned.f
  exact ev_list (rd_T55 xs) (fun k (s : Bool × S55) i => impl_Owned.l0 k s.1 xs (xs.length : Int) i s.2.f0 s.2.f1 s.2.f2 s.2.f3 s.2.f4 s.2.f5 s.2.f6 s.2.f7 s.2.f8) xs (fun r s => owned r s.1 s.2.f1 s.2.f8) (fun _ _ => True) (rd55 xs) hn
    (fun i n rest s hi hlt h0 hrd hw _ ih => by
      obtain ⟨fd, o⟩ := s
      replace ih : ∀ (fd : Bool) (o : S55), True → Ev (fun k => impl_Owned.l0 k fd xs (xs.length : Int) ((i + 1 : Nat) : Int) o.f0 o.f1 o.f2 o.f3 o.f4 o.f5 o.f6 o.f7 o.f8) (owned rest fd o.f1 o.f8) := fun fd o _ => ih (fd, o) trivial
      show Ev (fun k => impl_Owned.l0 k fd xs (xs.length : Int) (i : Int) o.f0 o.f1 o.f2 o.f3 o.f4 o.f5 o.f6 o.f7 o.f8) (owned (n :: rest) fd o.f1 o.f8)
      refine Ev.succ ?_
      simp only [impl_Owned.l0, impl_Owned.j1, hrd, hw, hlt, h0, isIn_ok, l1In_ok, Option.bind_some, if_true, decide_eq_true_eq]
      repeat' first
        | refine Ev.ite (fun _ => ?_) (fun _ => ?_)
        | (refine Ev.cast (ih _ o trivial) ?_)
        | (refine Ev.cast (ih _ n trivial) ?_)
        | (refine Ev.now' ?_)
        | (refine Ev.succ ?_; simp only [impl_Owned.l0, impl_Owned.j1, hw])
      all_goals (first | (simp_all [owned]; done) | (simp_all [owned]; intros; omega))
      )
    (fun s _ => by
      refine Ev.succ ?_
      simp only [impl_Owned.l0, Int.lt_irrefl, if_false, owned]; exact Ev.now _)
    (false, z55) trivial
theorem spec_ok (xs : List S55) (hn : xs.length ≤ 9223372036854775806) : Ev (fun k => spec_Owned.f k xs) (owned xs false 0 0) := by
  unfold spec_Owned.f
  exact ev_list (rd_T55 xs) (fun k (o : S55) i => spec_Owned.l0 k xs i o.f0 o.f1 o.f2 o.f3 o.f4 o.f5 o.f6 o.f7 o.f8) xs (fun r o => owned r (o.f0 != 0) o.f1 o.f8) (fun _ _ => True) (rd55 xs) hn
    (fun i n rest o hi hlt h0 hrd hw _ ih => by
      replace ih : ∀ (o : S55), True → Ev (fun k => spec_Owned.l0 k xs ((i + 1 : Nat) : Int) o.f0 o.f1 o.f2 o.f3 o.f4 o.f5 o.f6 o.f7 o.f8) (owned rest (o.f0 != 0) o.f1 o.f8) := fun o _ => ih o trivial
      show Ev (fun k => spec_Owned.l0 k xs (i : Int) o.f0 o.f1 o.f2 o.f3 o.f4 o.f5 o.f6 o.f7 o.f8) (owned (n :: rest) (o.f0 != 0) o.f1 o.f8)
      refine Ev.succ ?_
      simp only [spec_Owned.l0, spec_Owned.j1, spec_Owned.j2, hrd, hw, hlt, h0, isIn_ok, l1In_ok, Option.bind_some, if_true, decide_eq_true_eq]
      repeat' first
        | refine Ev.ite (fun _ => ?_) (fun _ => ?_)
        | (refine Ev.cast (ih o trivial) ?_)
        | (refine Ev.cast (ih n trivial) ?_)
        | (refine Ev.now' ?_)
        | (refine Ev.succ ?_; simp only [spec_Owned.l0, spec_Owned.j1, spec_Owned.j2, hw])
      all_goals (first | (simp_all [owned]; done) | (simp_all [owned]; intros; omega))
      )
    (fun s _ => by
      refine Ev.succ ?_
      simp only [spec_Owned.l0, Int.lt_irrefl, if_false, owned]; exact Ev.now _)
    z55 trivial
end HOwned
open HOwned in
theorem FnExactOwned : SFnExactOwned.Pure := by
  intro xs ⟨hb, _, _⟩
  have hl : xs.length ≤ 1954687338267 := by omega
  have hm : (xs.map cv).length = xs.length := by simp
  refine Ev.rounds (r := true) ?_
  unfold laws_FnExactOwned.f laws_szNoteS.f
  have cc : ∀ (c : Prop) [Decidable c] (a b : Int), ∃ t, (if c then some a else some b) = some t := fun c _ a b => by split <;> exact ⟨_, rfl⟩
  obtain ⟨t, ht⟩ := cc (wrap64 (1048576 - (xs.length : Int)) < 0) (-1) (wrap64 (1048576 - (xs.length : Int)))
  rw [ht]; simp only [Option.bind_some]
  by_cases h0 : t < 0
  · simp only [h0, if_true]; exact Ev.now _
  · simp only [h0, if_false]
    refine Ev.bind (Ev.at_ (fun k hk => to_ok xs (by omega) k hk)) ?_
    refine Ev.bind (spec_ok _ (by omega)) ?_
    refine Ev.bind (Ev.at_ (fun k hk => to_ok xs (by omega) k hk)) ?_
    refine Ev.bind (impl_ok _ (by omega)) ?_
    simp only [bne_self_eq_false, if_false, Bool.false_eq_true]
    refine Ev.bind (Ev.at_ (fun k hk => to_ok xs (by omega) k hk)) ?_
    refine Ev.bind (Ev.at_ (fun k hk => eq_refl_ok _ (by omega) k hk)) ?_
    simp only [if_true]; exact Ev.now _

end Go.Proofs.Ytjeadgnoladnjaa.Pure
