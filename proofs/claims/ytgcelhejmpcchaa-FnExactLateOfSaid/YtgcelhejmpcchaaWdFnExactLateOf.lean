/-  What the conversions of a state, its size and its comparison come to.  Written by mkworld.py. -/
import Derived.Test.YtgcelhejmpcchaaPFnExactLateOfx2
import Derived.Test.YtgcelhejmpcchaaPFnExactLateOfx7
import Derived.Test.YtgcelhejmpcchaaPFnExactLateOfx13
import Derived.Test.YtgcelhejmpcchaaLoops
namespace Go.Proofs.Ytgcelhejmpcchaa.Wd
open Go.RowKit Go.Proofs.YtgcelhejmpcchaaW.PrintWords Go.Proofs.YtgcelhejmpcchaaW.PrintLast Go.Proofs.YtgcelhejmpcchaaW.PrintMore Go.Proofs.Ytgcelhejmpcchaa.PFnExactLateOf Go.Proofs.Ytgcelhejmpcchaa.Lp
set_option linter.unusedVariables false
set_option linter.unusedSimpArgs false
theorem EvP.ev {α : Type} {g : Nat → Option α} {r : α} (h : EvP g (fun x => x = r)) : Ev g r := by obtain ⟨_, rfl, h⟩ := h; exact h
theorem EvP.bindE {α β : Type} {x : Option α} {f : Nat → α → Option β} {a : α} {P : β → Prop} (h : x = some a) (k : EvP (fun n => f n a) P) : EvP (fun n => x.bind (f n)) P := by subst h; exact k
theorem EvP.const {α : Type} {x : Option α} {P : α → Prop} {r : α} (h : x = some r) (hp : P r) : EvP (fun _ => x) P := ⟨r, hp, Ev.const h⟩
/-- A loop over the elements of a list, by what holds of its result. -/
theorem evp_list {α σ ρ : Type} (rdf : Int → α) (l : Nat → σ → Int → Option ρ) (xs : List α) (P : List α → σ → ρ → Prop) (Inv : Nat → σ → Prop)
    (hrd : ∀ (i : Nat) (h : i < xs.length), rdf (i : Int) = xs[i]) (hn : xs.length ≤ 9223372036854775806)
    (hstep : ∀ (i : Nat) (n : α) (rest : List α) (s : σ), i < xs.length → ((i : Int) < (xs.length : Int)) = True → ((0 : Int) ≤ (i : Int)) = True → rdf (i : Int) = n → n ∈ xs → wrap64 ((i : Int) + 1) = ((i + 1 : Nat) : Int) → Inv i s →
      (∀ s', Inv (i + 1) s' → EvP (fun k => l k s' ((i + 1 : Nat) : Int)) (P rest s')) → EvP (fun k => l k s (i : Int)) (P (n :: rest) s))
    (hend : ∀ s, Inv xs.length s → EvP (fun k => l k s (xs.length : Int)) (P [] s)) (s : σ) (hI : Inv 0 s) : EvP (fun k => l k s 0) (P xs s) := by
  have key : ∀ (d i : Nat) (s : σ), xs.length - i = d → i ≤ xs.length → Inv i s → EvP (fun k => l k s (i : Int)) (P (xs.drop i) s) := by
    intro d
    induction d with
    | zero =>
      intro i s hd hi hI
      obtain rfl : i = xs.length := by omega
      simpa using hend s hI
    | succ d ih =>
      intro i s hd hi hI
      have hlt : i < xs.length := by omega
      rw [List.drop_eq_getElem_cons hlt]
      exact hstep i _ _ s hlt (eq_true (by omega)) (eq_true (by omega)) (hrd i hlt) (List.getElem_mem hlt) (wrap_nat hlt (by omega)) hI (fun s' hI' => ih (i + 1) s' (by omega) (by omega) hI')
  exact key xs.length 0 s (by omega) (by omega) hI
/-- A loop that fills a new row. -/
theorem ev_fill {α β : Type} (rdf : Int → α) (l : Nat → List β → Int → Option (List β)) (xs : List α) (z : β) (f : α → β)
    (hrd : ∀ (i : Nat) (h : i < xs.length), rdf (i : Int) = xs[i]) (hn : xs.length ≤ 9223372036854775806)
    (hstep : ∀ (i : Nat) (n : α) (s : List β) (R : List β), ((i : Int) < (xs.length : Int)) = True → ((0 : Int) ≤ (i : Int)) = True → ((i : Int) < (s.length : Int)) = True → rdf (i : Int) = n → n ∈ xs → wrap64 ((i : Int) + 1) = ((i + 1 : Nat) : Int) →
      Ev (fun k => l k (s.set i (f n)) ((i + 1 : Nat) : Int)) R → Ev (fun k => l k s (i : Int)) R)
    (hend : ∀ s, Ev (fun k => l k s (xs.length : Int)) s) : Ev (fun k => l k (List.replicate xs.length z) 0) (xs.map f) := by
  have key : ∀ (d i : Nat) (s : List β), xs.length - i = d → i ≤ xs.length → s = (xs.take i).map f ++ List.replicate (xs.length - i) z → Ev (fun k => l k s (i : Int)) (xs.map f) := by
    intro d
    induction d with
    | zero =>
      intro i s hd hi hs
      obtain rfl : i = xs.length := by omega
      subst hs
      simpa using hend ((xs.take xs.length).map f ++ List.replicate (xs.length - xs.length) z)
    | succ d ih =>
      intro i s hd hi hs
      have hlt : i < xs.length := by omega
      have hl : s.length = xs.length := by subst hs; simp only [List.length_append, List.length_map, List.length_take, List.length_replicate]; omega
      refine hstep i _ s _ (eq_true (by omega)) (eq_true (by omega)) (eq_true (by omega)) (hrd i hlt) (List.getElem_mem hlt) (wrap_nat hlt (by omega)) (ih (i + 1) _ (by omega) (by omega) ?_)
      subst hs
      have e1 : xs.length - i = (xs.length - (i + 1)) + 1 := by omega
      rw [e1]
      have := set_mid ((xs.take i).map f) z (f xs[i]) (xs.length - (i + 1)) i (by simp; omega)
      exact this.trans (by rw [take_succ' _ _ hlt, List.map_append]; rfl)
  exact key xs.length 0 _ (by omega) (by omega) (by simp)
theorem wrap_sub {a : Int} {n : Nat} (h0 : 0 ≤ a) (h1 : a ≤ 1048576) (hn : n ≤ 140737488351232) : wrap64 (a - (n : Int)) = a - n := wrap_id (by omega) (by omega)
theorem rdL (xs : List (List Int)) (i : Nat) (h : i < xs.length) : rd_L3 xs (i : Int) = xs[i] := getD_eq xs [] i h
theorem rdI (xs : List Int) (i : Nat) (h : i < xs.length) : rd xs (i : Int) = xs[i] := getD_eq xs 0 i h
def M (n : Nat) : Prop := n ≤ 140737488351232
def C (n : Nat) : Prop := n ≤ 1048576

theorem rd65 (xs : List S65) (i : Nat) (h : i < xs.length) : rd_T65 xs (i : Int) = xs[i] := getD_eq xs z65 i h
theorem rd63 (xs : List S63) (i : Nat) (h : i < xs.length) : rd_T63 xs (i : Int) = xs[i] := getD_eq xs z63 i h
theorem rd145 (xs : List S145) (i : Nat) (h : i < xs.length) : rd_T145 xs (i : Int) = xs[i] := getD_eq xs z145 i h
theorem rd150 (xs : List S150) (i : Nat) (h : i < xs.length) : rd_T150 xs (i : Int) = xs[i] := getD_eq xs z150 i h
theorem rd111 (xs : List S111) (i : Nat) (h : i < xs.length) : rd_T111 xs (i : Int) = xs[i] := getD_eq xs z111 i h
theorem rd101 (xs : List S101) (i : Nat) (h : i < xs.length) : rd_T101 xs (i : Int) = xs[i] := getD_eq xs z101 i h
theorem rd168 (xs : List S168) (i : Nat) (h : i < xs.length) : rd_T168 xs (i : Int) = xs[i] := getD_eq xs z168 i h
theorem rd83 (xs : List S83) (i : Nat) (h : i < xs.length) : rd_T83 xs (i : Int) = xs[i] := getD_eq xs z83 i h
theorem rd170 (xs : List S170) (i : Nat) (h : i < xs.length) : rd_T170 xs (i : Int) = xs[i] := getD_eq xs z170 i h
theorem rd81 (xs : List S81) (i : Nat) (h : i < xs.length) : rd_T81 xs (i : Int) = xs[i] := getD_eq xs z81 i h
theorem rd172 (xs : List S172) (i : Nat) (h : i < xs.length) : rd_T172 xs (i : Int) = xs[i] := getD_eq xs z172 i h
theorem rd165 (xs : List S165) (i : Nat) (h : i < xs.length) : rd_T165 xs (i : Int) = xs[i] := getD_eq xs z165 i h


theorem rd118 (xs : List S118) (i : Nat) (h : i < xs.length) : rd_T118 xs (i : Int) = xs[i] := getD_eq xs z118 i h
theorem rd79 (xs : List S79) (i : Nat) (h : i < xs.length) : rd_T79 xs (i : Int) = xs[i] := getD_eq xs z79 i h
theorem rd121 (xs : List S121) (i : Nat) (h : i < xs.length) : rd_T121 xs (i : Int) = xs[i] := getD_eq xs z121 i h
theorem rd126 (xs : List S126) (i : Nat) (h : i < xs.length) : rd_T126 xs (i : Int) = xs[i] := getD_eq xs z126 i h
def nNote (x : S65) : Prop := True
def cNote (x : S65) : Prop := True
def vNote (x : S65) : S63 := ⟨x.f0, x.f1, x.f2, x.f3, x.f4, x.f5, x.f6, x.f7, x.f8⟩
def nWr (x : S145) : Prop := M x.f1.length
def cWr (x : S145) : Prop := C x.f1.length
def vWr (x : S145) : S150 := ⟨x.f0, x.f1⟩
def nSock (x : S111) : Prop := M x.f4.length ∧ M x.f5.length
def cSock (x : S111) : Prop := C x.f4.length ∧ C x.f5.length
def vSock (x : S111) : S101 := ⟨x.f0, x.f1, x.f2, x.f3, x.f4, x.f5, x.f6, x.f7⟩
def nDb (x : S168) : Prop := M x.f0.size
def cDb (x : S168) : Prop := True
def vDb (x : S168) : S83 := ⟨x.f0, x.f1, x.f2, x.f3, x.f4⟩
def nAsker (x : S170) : Prop := M x.f1.size ∧ M x.f5.size
def cAsker (x : S170) : Prop := True
def vAsker (x : S170) : S81 := ⟨x.f0, x.f1, x.f2, x.f3, x.f4, x.f5, x.f6, x.f7⟩
def nLine (x : S172) : Prop := M x.f1.size
def cLine (x : S172) : Prop := True
def vLine (x : S172) : S165 := ⟨x.f0, x.f1, x.f2, x.f3, x.f4, x.f5, x.f6⟩
def nHand (x : S116) : Prop := True
def cHand (x : S116) : Prop := True
def vHand (x : S116) : S77 := ⟨x.f0, x.f1, x.f2, x.f3⟩
def nHouse (x : S118) : Prop := (M x.f3.length ∧ ∀ y ∈ x.f3, nDb y) ∧ (M x.f5.length ∧ ∀ y ∈ x.f5, nAsker y) ∧ (M x.f6.length ∧ ∀ y ∈ x.f6, nLine y)
def cHouse (x : S118) : Prop := C x.f3.length ∧ C x.f5.length ∧ C x.f6.length
def vHouse (x : S118) : S79 := ⟨x.f0, x.f1, x.f2, x.f3.map vDb, x.f4, x.f5.map vAsker, x.f6.map vLine, x.f7, vHand x.f8⟩
def nPack (x : S121) : Prop := M x.f1.length
def cPack (x : S121) : Prop := C x.f1.length
def vPack (x : S121) : S126 := ⟨x.f0, x.f1⟩
theorem sz_B (l : List Int) (hb : M l.length) (a : Int) (h0 : 0 ≤ a) (h1 : a ≤ 1048576) : ∃ r, laws_szByteS.f l a = some r ∧ (0 ≤ r → r ≤ a ∧ C l.length) := by
  unfold laws_szByteS.f
  rw [wrap_sub h0 h1 hb]
  split
  · exact ⟨_, rfl, fun h => by omega⟩
  · exact ⟨_, rfl, fun h => ⟨by omega, by unfold C; omega⟩⟩
theorem sz_Note (l : List S65) (hb : M l.length) (a : Int) (h0 : 0 ≤ a) (h1 : a ≤ 1048576) : ∃ r, laws_szNoteS.f l a = some r ∧ (0 ≤ r → r ≤ a ∧ C l.length) := by
  unfold laws_szNoteS.f
  rw [wrap_sub h0 h1 hb]
  split
  · exact ⟨_, rfl, fun h => by omega⟩
  · exact ⟨_, rfl, fun h => ⟨by omega, by unfold C; omega⟩⟩
theorem to_B (l : List Int) (hc : C l.length) : Ev (fun k => laws_toByteS.f k l) l := by
  have hc' : l.length ≤ 1048576 := hc
  unfold laws_toByteS.f
  refine Ev.ite_pos (by omega) (Ev.ite_pos (by omega) ?_)
  refine Ev.cast (r := l.map id) (ev_fill (rd l) (fun k s i => laws_toByteS.l0 k l s i) l 0 id (rdI l) (by omega) (fun i n s R hlt hi hs hrd hm hw ih => ?_) (fun s => ?_)) (by simp)
  · refine Ev.succ ?_
    simp only [laws_toByteS.l0, hlt, hi, hs, hrd, hw, if_true, Int.toNat_natCast]
    exact ih
  · refine Ev.succ ?_
    simp only [laws_toByteS.l0]
    exact Ev.ite_neg (by omega) (Ev.now _)
theorem eq_B (l : List Int) (hc : C l.length) : Ev (fun k => laws_eqByteS.f k l l) true := by
  have hc' : l.length ≤ 1048576 := hc
  unfold laws_eqByteS.f
  refine Ev.ite_pos rfl ?_
  refine EvP.ev (evp_list (rd l) (fun k (_ : Unit) i => laws_eqByteS.l0 k l l i) l (fun _ _ r => r = true) (fun _ _ => True) (rdI l) (by omega) (fun i n rest s hi hlt h0 hrd hm hw _ ih => ?_) (fun s _ => ?_) () trivial)
  · refine EvP.succ ?_
    simp only [laws_eqByteS.l0, hlt, h0, hrd, hw, if_true]
    exact ih () trivial
  · refine EvP.succ ?_
    simp only [laws_eqByteS.l0]
    exact EvP.ite_neg (by omega) (EvP.now rfl)
theorem sz_BS (xs : List (List Int)) (hb : M xs.length) (hbe : ∀ y ∈ xs, M y.length) (a : Int) (h0 : 0 ≤ a) (h1 : a ≤ 1048576) : EvP (fun k => laws_szByteSS.f k xs a) (fun r => 0 ≤ r → r ≤ a ∧ C xs.length ∧ ∀ y ∈ xs, C y.length) := by
  have hb' : xs.length ≤ 140737488351232 := hb
  unfold laws_szByteSS.f
  rw [wrap_sub h0 h1 hb]
  by_cases c : a - (xs.length : Int) < 0
  · exact EvP.ite_pos c (EvP.now (fun h => by omega))
  refine EvP.ite_neg c (EvP.mono (evp_list (rd_L3 xs) (fun k s i => laws_szByteSS.l0 k xs s i) xs (fun rest s r => 0 ≤ r → r ≤ s ∧ ∀ y ∈ rest, C y.length) (fun _ s => 0 ≤ s ∧ s ≤ 1048576) (rdL xs) (by omega) (fun i n rest s hi hlt h0i hrd hm hw hI ih => ?_) (fun s _ => ?_) (a - xs.length) ⟨by omega, by omega⟩) ?_)
  · refine EvP.succ ?_
    simp only [laws_szByteSS.l0, hlt, h0i, hrd, hw, if_true]
    obtain ⟨r, e, q⟩ := sz_B n (hbe n hm) s hI.1 hI.2
    refine EvP.bindE e ?_
    by_cases c0 : r < 0
    · exact EvP.ite_pos c0 (EvP.now (fun h => by omega))
    · refine EvP.ite_neg c0 (EvP.mono (ih r ⟨by omega, by have := (q (by omega)).1; omega⟩) (fun r' q' h => ⟨by have := (q (by omega)).1; have := (q' h).1; omega, ?_⟩))
      intro y hy
      rcases List.mem_cons.1 hy with rfl | hy
      · exact (q (by omega)).2
      · exact (q' h).2 y hy
  · refine EvP.succ ?_
    simp only [laws_szByteSS.l0]
    exact EvP.ite_neg (by omega) (EvP.now (fun h => ⟨Int.le_refl _, by simp⟩))
  · intro r q h
    exact ⟨by have := (q h).1; omega, by unfold C; omega, (q h).2⟩
theorem to_BS (xs : List (List Int)) (hl : C xs.length) (hc : ∀ y ∈ xs, C y.length) : Ev (fun k => laws_toByteSS.f k xs) xs := by
  have hl' : xs.length ≤ 1048576 := hl
  unfold laws_toByteSS.f
  refine Ev.ite_pos (by omega) (Ev.ite_pos (by omega) ?_)
  refine Ev.cast (r := xs.map id) (ev_fill (rd_L3 xs) (fun k s i => laws_toByteSS.l0 k xs s i) xs [] id (rdL xs) (by omega) (fun i n s R hlt hi hs hrd hm hw ih => ?_) (fun s => ?_)) (by simp)
  · refine Ev.succ ?_
    simp only [laws_toByteSS.l0, hlt, hi, hs, hrd, hw, if_true, Int.toNat_natCast]
    exact Ev.bind' (to_B n (hc n hm)) ih
  · refine Ev.succ ?_
    simp only [laws_toByteSS.l0]
    exact Ev.ite_neg (by omega) (Ev.now _)
theorem eq_BS (xs : List (List Int)) (hl : C xs.length) (hc : ∀ y ∈ xs, C y.length) : Ev (fun k => laws_eqByteSS.f k xs xs) true := by
  have hl' : xs.length ≤ 1048576 := hl
  unfold laws_eqByteSS.f
  refine Ev.ite_pos rfl ?_
  refine EvP.ev (evp_list (rd_L3 xs) (fun k (_ : Unit) i => laws_eqByteSS.l0 k xs xs i) xs (fun _ _ r => r = true) (fun _ _ => True) (rdL _) (by omega) (fun i n rest s hi hlt h0 hrd hm hw _ ih => ?_) (fun s _ => ?_) () trivial)
  · refine EvP.succ ?_
    simp only [laws_eqByteSS.l0, hlt, h0, hrd, hw, if_true]
    exact EvP.bind (eq_B n (hc n hm)) (EvP.ite_pos rfl (ih () trivial))
  · refine EvP.succ ?_
    simp only [laws_eqByteSS.l0]
    exact EvP.ite_neg (by omega) (EvP.now rfl)
theorem to_eNote (x : S65) (hc : cNote x) : Ev (fun k => laws_toNote.f x.f0 x.f1 x.f2 x.f3 x.f4 x.f5 x.f6 x.f7 x.f8) (x.f0, x.f1, x.f2, x.f3, x.f4, x.f5, x.f6, x.f7, x.f8) := by
  exact Ev.now _
theorem eq_eNote (x : S65) (hc : cNote x) : Ev (fun k => laws_eqNote.f (vNote x).f0 (vNote x).f1 (vNote x).f2 (vNote x).f3 (vNote x).f4 (vNote x).f5 (vNote x).f6 (vNote x).f7 (vNote x).f8 (vNote x).f0 (vNote x).f1 (vNote x).f2 (vNote x).f3 (vNote x).f4 (vNote x).f5 (vNote x).f6 (vNote x).f7 (vNote x).f8) true := by
  unfold laws_eqNote.f
  refine Ev.ite_pos rfl ?_
  refine Ev.ite_pos rfl ?_
  refine Ev.ite_pos rfl ?_
  refine Ev.ite_pos rfl ?_
  refine Ev.ite_pos rfl ?_
  refine Ev.ite_pos rfl ?_
  refine Ev.ite_pos rfl ?_
  refine Ev.ite_pos rfl ?_
  refine Ev.ite_pos rfl ?_
  exact Ev.now _
theorem to_Note (xs : List S65) (hl : C xs.length) (hc : ∀ y ∈ xs, cNote y) : Ev (fun k => laws_toNoteS.f k xs) (xs.map vNote) := by
  have hl' : xs.length ≤ 1048576 := hl
  unfold laws_toNoteS.f
  refine Ev.ite_pos (by omega) (Ev.ite_pos (by omega) ?_)
  refine ev_fill (rd_T65 xs) (fun k s i => laws_toNoteS.l0 k xs s i) xs z63 vNote (rd65 xs) (by omega) (fun i n s R hlt hi hs hrd hm hw ih => ?_) (fun s => ?_)
  · refine Ev.succ ?_
    simp only [laws_toNoteS.l0, hlt, hi, hs, hrd, hw, if_true, Int.toNat_natCast]
    exact Ev.bind' (to_eNote n (hc n hm)) ih
  · refine Ev.succ ?_
    simp only [laws_toNoteS.l0]
    exact Ev.ite_neg (by omega) (Ev.now _)
theorem eq_Note (xs : List S65) (hl : C xs.length) (hc : ∀ y ∈ xs, cNote y) : Ev (fun k => laws_eqNoteS.f k (xs.map vNote) (xs.map vNote)) true := by
  have hl' : (xs.map vNote).length ≤ 1048576 := by rw [List.length_map]; exact hl
  unfold laws_eqNoteS.f
  refine Ev.ite_pos rfl ?_
  refine EvP.ev (evp_list (rd_T63 (xs.map vNote)) (fun k (_ : Unit) i => laws_eqNoteS.l0 k (xs.map vNote) (xs.map vNote) i) (xs.map vNote) (fun _ _ r => r = true) (fun _ _ => True) (rd63 _) (by omega) (fun i n rest s hi hlt h0 hrd hm hw _ ih => ?_) (fun s _ => ?_) () trivial)
  · obtain ⟨x, hx, rfl⟩ := List.mem_map.1 hm
    refine EvP.succ ?_
    simp only [laws_eqNoteS.l0, hlt, h0, hrd, hw, if_true]
    exact EvP.bind (eq_eNote x (hc x hx)) (EvP.ite_pos rfl (ih () trivial))
  · refine EvP.succ ?_
    simp only [laws_eqNoteS.l0]
    exact EvP.ite_neg (by omega) (EvP.now rfl)
theorem sz_eWr (x : S145) (hb : nWr x) (a : Int) (h0 : 0 ≤ a) (h1 : a ≤ 1048576) : EvP (fun k => laws_szWr.f x.f0 x.f1 a) (fun r => 0 ≤ r → r ≤ a ∧ cWr x) := by
  have b0 := hb
  unfold laws_szWr.f
  obtain ⟨r0, e0, q0⟩ := sz_B x.f1 b0 a h0 h1
  refine EvP.bindE e0 ?_
  by_cases c0 : r0 < 0
  · exact EvP.ite_pos c0 (EvP.now (fun h => by omega))
  refine EvP.ite_neg c0 ?_
  obtain ⟨p0, t0⟩ := q0 (by omega)
  exact EvP.now (fun h => ⟨by omega, t0⟩)
theorem sz_Wr (xs : List S145) (hb : M xs.length) (hbe : ∀ y ∈ xs, nWr y) (a : Int) (h0 : 0 ≤ a) (h1 : a ≤ 1048576) : EvP (fun k => laws_szWrS.f k xs a) (fun r => 0 ≤ r → r ≤ a ∧ C xs.length ∧ ∀ y ∈ xs, cWr y) := by
  have hb' : xs.length ≤ 140737488351232 := hb
  unfold laws_szWrS.f
  rw [wrap_sub h0 h1 hb]
  by_cases c : a - (xs.length : Int) < 0
  · exact EvP.ite_pos c (EvP.now (fun h => by omega))
  refine EvP.ite_neg c (EvP.mono (evp_list (rd_T145 xs) (fun k s i => laws_szWrS.l0 k xs s i) xs (fun rest s r => 0 ≤ r → r ≤ s ∧ ∀ y ∈ rest, cWr y) (fun _ s => 0 ≤ s ∧ s ≤ 1048576) (rd145 xs) (by omega) (fun i n rest s hi hlt h0i hrd hm hw hI ih => ?_) (fun s _ => ?_) (a - xs.length) ⟨by omega, by omega⟩) ?_)
  · refine EvP.succ ?_
    simp only [laws_szWrS.l0, hlt, h0i, hrd, hw, if_true]
    refine EvP.bindP (sz_eWr n (hbe n hm) s hI.1 hI.2) (fun r q => ?_)
    by_cases c0 : r < 0
    · exact EvP.ite_pos c0 (EvP.now (fun h => by omega))
    · refine EvP.ite_neg c0 (EvP.mono (ih r ⟨by omega, by have := (q (by omega)).1; omega⟩) (fun r' q' h => ⟨by have := (q (by omega)).1; have := (q' h).1; omega, ?_⟩))
      intro y hy
      rcases List.mem_cons.1 hy with rfl | hy
      · exact (q (by omega)).2
      · exact (q' h).2 y hy
  · refine EvP.succ ?_
    simp only [laws_szWrS.l0]
    exact EvP.ite_neg (by omega) (EvP.now (fun h => ⟨Int.le_refl _, by simp⟩))
  · intro r q h
    exact ⟨by have := (q h).1; omega, by unfold C; omega, (q h).2⟩
theorem to_eWr (x : S145) (hc : cWr x) : Ev (fun k => laws_toWr.f k x.f0 x.f1) (x.f0, x.f1) := by
  have c0 := hc
  unfold laws_toWr.f
  exact Ev.bind (to_B x.f1 c0) (Ev.now _)
theorem eq_eWr (x : S145) (hc : cWr x) : Ev (fun k => laws_eqWr.f k (vWr x).f0 (vWr x).f1 (vWr x).f0 (vWr x).f1) true := by
  have c0 := hc
  unfold laws_eqWr.f
  refine Ev.ite_pos rfl ?_
  refine Ev.bind (eq_B x.f1 c0) (Ev.ite_pos rfl ?_)
  exact Ev.now _
theorem to_Wr (xs : List S145) (hl : C xs.length) (hc : ∀ y ∈ xs, cWr y) : Ev (fun k => laws_toWrS.f k xs) (xs.map vWr) := by
  have hl' : xs.length ≤ 1048576 := hl
  unfold laws_toWrS.f
  refine Ev.ite_pos (by omega) (Ev.ite_pos (by omega) ?_)
  refine ev_fill (rd_T145 xs) (fun k s i => laws_toWrS.l0 k xs s i) xs z150 vWr (rd145 xs) (by omega) (fun i n s R hlt hi hs hrd hm hw ih => ?_) (fun s => ?_)
  · refine Ev.succ ?_
    simp only [laws_toWrS.l0, hlt, hi, hs, hrd, hw, if_true, Int.toNat_natCast]
    exact Ev.bind' (to_eWr n (hc n hm)) ih
  · refine Ev.succ ?_
    simp only [laws_toWrS.l0]
    exact Ev.ite_neg (by omega) (Ev.now _)
theorem eq_Wr (xs : List S145) (hl : C xs.length) (hc : ∀ y ∈ xs, cWr y) : Ev (fun k => laws_eqWrS.f k (xs.map vWr) (xs.map vWr)) true := by
  have hl' : (xs.map vWr).length ≤ 1048576 := by rw [List.length_map]; exact hl
  unfold laws_eqWrS.f
  refine Ev.ite_pos rfl ?_
  refine EvP.ev (evp_list (rd_T150 (xs.map vWr)) (fun k (_ : Unit) i => laws_eqWrS.l0 k (xs.map vWr) (xs.map vWr) i) (xs.map vWr) (fun _ _ r => r = true) (fun _ _ => True) (rd150 _) (by omega) (fun i n rest s hi hlt h0 hrd hm hw _ ih => ?_) (fun s _ => ?_) () trivial)
  · obtain ⟨x, hx, rfl⟩ := List.mem_map.1 hm
    refine EvP.succ ?_
    simp only [laws_eqWrS.l0, hlt, h0, hrd, hw, if_true]
    exact EvP.bind (eq_eWr x (hc x hx)) (EvP.ite_pos rfl (ih () trivial))
  · refine EvP.succ ?_
    simp only [laws_eqWrS.l0]
    exact EvP.ite_neg (by omega) (EvP.now rfl)
theorem sz_eSock (x : S111) (hb : nSock x) (a : Int) (h0 : 0 ≤ a) (h1 : a ≤ 1048576) : EvP (fun k => laws_szSock.f x.f0 x.f1 x.f2 x.f3 x.f4 x.f5 x.f6 x.f7 a) (fun r => 0 ≤ r → r ≤ a ∧ cSock x) := by
  obtain ⟨b0, b1⟩ := hb
  unfold laws_szSock.f
  obtain ⟨r0, e0, q0⟩ := sz_B x.f4 b0 a h0 h1
  refine EvP.bindE e0 ?_
  by_cases c0 : r0 < 0
  · exact EvP.ite_pos c0 (EvP.now (fun h => by omega))
  refine EvP.ite_neg c0 ?_
  obtain ⟨p0, t0⟩ := q0 (by omega)
  obtain ⟨r1, e1, q1⟩ := sz_B x.f5 b1 r0 (by omega) (by omega)
  refine EvP.bindE e1 ?_
  by_cases c1 : r1 < 0
  · exact EvP.ite_pos c1 (EvP.now (fun h => by omega))
  refine EvP.ite_neg c1 ?_
  obtain ⟨p1, t1⟩ := q1 (by omega)
  exact EvP.now (fun h => ⟨by omega, ⟨t0, t1⟩⟩)
theorem sz_Sock (xs : List S111) (hb : M xs.length) (hbe : ∀ y ∈ xs, nSock y) (a : Int) (h0 : 0 ≤ a) (h1 : a ≤ 1048576) : EvP (fun k => laws_szSockS.f k xs a) (fun r => 0 ≤ r → r ≤ a ∧ C xs.length ∧ ∀ y ∈ xs, cSock y) := by
  have hb' : xs.length ≤ 140737488351232 := hb
  unfold laws_szSockS.f
  rw [wrap_sub h0 h1 hb]
  by_cases c : a - (xs.length : Int) < 0
  · exact EvP.ite_pos c (EvP.now (fun h => by omega))
  refine EvP.ite_neg c (EvP.mono (evp_list (rd_T111 xs) (fun k s i => laws_szSockS.l0 k xs s i) xs (fun rest s r => 0 ≤ r → r ≤ s ∧ ∀ y ∈ rest, cSock y) (fun _ s => 0 ≤ s ∧ s ≤ 1048576) (rd111 xs) (by omega) (fun i n rest s hi hlt h0i hrd hm hw hI ih => ?_) (fun s _ => ?_) (a - xs.length) ⟨by omega, by omega⟩) ?_)
  · refine EvP.succ ?_
    simp only [laws_szSockS.l0, hlt, h0i, hrd, hw, if_true]
    refine EvP.bindP (sz_eSock n (hbe n hm) s hI.1 hI.2) (fun r q => ?_)
    by_cases c0 : r < 0
    · exact EvP.ite_pos c0 (EvP.now (fun h => by omega))
    · refine EvP.ite_neg c0 (EvP.mono (ih r ⟨by omega, by have := (q (by omega)).1; omega⟩) (fun r' q' h => ⟨by have := (q (by omega)).1; have := (q' h).1; omega, ?_⟩))
      intro y hy
      rcases List.mem_cons.1 hy with rfl | hy
      · exact (q (by omega)).2
      · exact (q' h).2 y hy
  · refine EvP.succ ?_
    simp only [laws_szSockS.l0]
    exact EvP.ite_neg (by omega) (EvP.now (fun h => ⟨Int.le_refl _, by simp⟩))
  · intro r q h
    exact ⟨by have := (q h).1; omega, by unfold C; omega, (q h).2⟩
theorem to_eSock (x : S111) (hc : cSock x) : Ev (fun k => laws_toSock.f k x.f0 x.f1 x.f2 x.f3 x.f4 x.f5 x.f6 x.f7) (x.f0, x.f1, x.f2, x.f3, x.f4, x.f5, x.f6, x.f7) := by
  obtain ⟨c0, c1⟩ := hc
  unfold laws_toSock.f
  exact Ev.bind (to_B x.f4 c0) (Ev.bind (to_B x.f5 c1) (Ev.now _))
theorem eq_eSock (x : S111) (hc : cSock x) : Ev (fun k => laws_eqSock.f k (vSock x).f0 (vSock x).f1 (vSock x).f2 (vSock x).f3 (vSock x).f4 (vSock x).f5 (vSock x).f6 (vSock x).f7 (vSock x).f0 (vSock x).f1 (vSock x).f2 (vSock x).f3 (vSock x).f4 (vSock x).f5 (vSock x).f6 (vSock x).f7) true := by
  obtain ⟨c0, c1⟩ := hc
  unfold laws_eqSock.f
  refine Ev.ite_pos rfl ?_
  refine Ev.ite_pos rfl ?_
  refine Ev.ite_pos rfl ?_
  refine Ev.ite_neg (by simp) ?_
  refine Ev.bind (eq_B x.f4 c0) (Ev.ite_pos rfl ?_)
  refine Ev.bind (eq_B x.f5 c1) (Ev.ite_pos rfl ?_)
  refine Ev.ite_pos rfl ?_
  refine Ev.ite_pos rfl ?_
  exact Ev.now _
theorem to_Sock (xs : List S111) (hl : C xs.length) (hc : ∀ y ∈ xs, cSock y) : Ev (fun k => laws_toSockS.f k xs) (xs.map vSock) := by
  have hl' : xs.length ≤ 1048576 := hl
  unfold laws_toSockS.f
  refine Ev.ite_pos (by omega) (Ev.ite_pos (by omega) ?_)
  refine ev_fill (rd_T111 xs) (fun k s i => laws_toSockS.l0 k xs s i) xs z101 vSock (rd111 xs) (by omega) (fun i n s R hlt hi hs hrd hm hw ih => ?_) (fun s => ?_)
  · refine Ev.succ ?_
    simp only [laws_toSockS.l0, hlt, hi, hs, hrd, hw, if_true, Int.toNat_natCast]
    exact Ev.bind' (to_eSock n (hc n hm)) ih
  · refine Ev.succ ?_
    simp only [laws_toSockS.l0]
    exact Ev.ite_neg (by omega) (Ev.now _)
theorem eq_Sock (xs : List S111) (hl : C xs.length) (hc : ∀ y ∈ xs, cSock y) : Ev (fun k => laws_eqSockS.f k (xs.map vSock) (xs.map vSock)) true := by
  have hl' : (xs.map vSock).length ≤ 1048576 := by rw [List.length_map]; exact hl
  unfold laws_eqSockS.f
  refine Ev.ite_pos rfl ?_
  refine EvP.ev (evp_list (rd_T101 (xs.map vSock)) (fun k (_ : Unit) i => laws_eqSockS.l0 k (xs.map vSock) (xs.map vSock) i) (xs.map vSock) (fun _ _ r => r = true) (fun _ _ => True) (rd101 _) (by omega) (fun i n rest s hi hlt h0 hrd hm hw _ ih => ?_) (fun s _ => ?_) () trivial)
  · obtain ⟨x, hx, rfl⟩ := List.mem_map.1 hm
    refine EvP.succ ?_
    simp only [laws_eqSockS.l0, hlt, h0, hrd, hw, if_true]
    exact EvP.bind (eq_eSock x (hc x hx)) (EvP.ite_pos rfl (ih () trivial))
  · refine EvP.succ ?_
    simp only [laws_eqSockS.l0]
    exact EvP.ite_neg (by omega) (EvP.now rfl)
theorem sz_eDb (x : S168) (hb : nDb x) (a : Int) (h0 : 0 ≤ a) (h1 : a ≤ 1048576) : EvP (fun k => laws_szDb.f x.f0 x.f1 x.f2 x.f3 x.f4 a) (fun r => 0 ≤ r → r ≤ a ∧ cDb x) := by
  have b0 := hb
  unfold laws_szDb.f
  have e0 : wrap64 (a - (x.f0.size : Int)) = a - x.f0.size := wrap_id (by have : x.f0.size ≤ _ := b0; omega) (by omega)
  rw [e0]
  by_cases c : (a - x.f0.size) < 0
  · exact EvP.ite_pos c (EvP.now (fun h => by omega))
  · exact EvP.ite_neg c (EvP.now (fun h => ⟨by omega, trivial⟩))
theorem sz_Db (xs : List S168) (hb : M xs.length) (hbe : ∀ y ∈ xs, nDb y) (a : Int) (h0 : 0 ≤ a) (h1 : a ≤ 1048576) : EvP (fun k => laws_szDbS.f k xs a) (fun r => 0 ≤ r → r ≤ a ∧ C xs.length ∧ ∀ y ∈ xs, cDb y) := by
  have hb' : xs.length ≤ 140737488351232 := hb
  unfold laws_szDbS.f
  rw [wrap_sub h0 h1 hb]
  by_cases c : a - (xs.length : Int) < 0
  · exact EvP.ite_pos c (EvP.now (fun h => by omega))
  refine EvP.ite_neg c (EvP.mono (evp_list (rd_T168 xs) (fun k s i => laws_szDbS.l0 k xs s i) xs (fun rest s r => 0 ≤ r → r ≤ s ∧ ∀ y ∈ rest, cDb y) (fun _ s => 0 ≤ s ∧ s ≤ 1048576) (rd168 xs) (by omega) (fun i n rest s hi hlt h0i hrd hm hw hI ih => ?_) (fun s _ => ?_) (a - xs.length) ⟨by omega, by omega⟩) ?_)
  · refine EvP.succ ?_
    simp only [laws_szDbS.l0, hlt, h0i, hrd, hw, if_true]
    refine EvP.bindP (sz_eDb n (hbe n hm) s hI.1 hI.2) (fun r q => ?_)
    by_cases c0 : r < 0
    · exact EvP.ite_pos c0 (EvP.now (fun h => by omega))
    · refine EvP.ite_neg c0 (EvP.mono (ih r ⟨by omega, by have := (q (by omega)).1; omega⟩) (fun r' q' h => ⟨by have := (q (by omega)).1; have := (q' h).1; omega, ?_⟩))
      intro y hy
      rcases List.mem_cons.1 hy with rfl | hy
      · exact (q (by omega)).2
      · exact (q' h).2 y hy
  · refine EvP.succ ?_
    simp only [laws_szDbS.l0]
    exact EvP.ite_neg (by omega) (EvP.now (fun h => ⟨Int.le_refl _, by simp⟩))
  · intro r q h
    exact ⟨by have := (q h).1; omega, by unfold C; omega, (q h).2⟩
theorem to_eDb (x : S168) (hc : cDb x) : Ev (fun k => laws_toDb.f x.f0 x.f1 x.f2 x.f3 x.f4) (x.f0, x.f1, x.f2, x.f3, x.f4) := by
  exact Ev.now _
theorem eq_eDb (x : S168) (hc : cDb x) : Ev (fun k => laws_eqDb.f (vDb x).f0 (vDb x).f1 (vDb x).f2 (vDb x).f3 (vDb x).f4 (vDb x).f0 (vDb x).f1 (vDb x).f2 (vDb x).f3 (vDb x).f4) true := by
  unfold laws_eqDb.f
  refine Ev.ite_pos rfl ?_
  refine Ev.ite_pos rfl ?_
  refine Ev.ite_pos rfl ?_
  refine Ev.ite_pos rfl ?_
  refine Ev.ite_pos rfl ?_
  exact Ev.now _
theorem to_Db (xs : List S168) (hl : C xs.length) (hc : ∀ y ∈ xs, cDb y) : Ev (fun k => laws_toDbS.f k xs) (xs.map vDb) := by
  have hl' : xs.length ≤ 1048576 := hl
  unfold laws_toDbS.f
  refine Ev.ite_pos (by omega) (Ev.ite_pos (by omega) ?_)
  refine ev_fill (rd_T168 xs) (fun k s i => laws_toDbS.l0 k xs s i) xs z83 vDb (rd168 xs) (by omega) (fun i n s R hlt hi hs hrd hm hw ih => ?_) (fun s => ?_)
  · refine Ev.succ ?_
    simp only [laws_toDbS.l0, hlt, hi, hs, hrd, hw, if_true, Int.toNat_natCast]
    exact Ev.bind' (to_eDb n (hc n hm)) ih
  · refine Ev.succ ?_
    simp only [laws_toDbS.l0]
    exact Ev.ite_neg (by omega) (Ev.now _)
theorem eq_Db (xs : List S168) (hl : C xs.length) (hc : ∀ y ∈ xs, cDb y) : Ev (fun k => laws_eqDbS.f k (xs.map vDb) (xs.map vDb)) true := by
  have hl' : (xs.map vDb).length ≤ 1048576 := by rw [List.length_map]; exact hl
  unfold laws_eqDbS.f
  refine Ev.ite_pos rfl ?_
  refine EvP.ev (evp_list (rd_T83 (xs.map vDb)) (fun k (_ : Unit) i => laws_eqDbS.l0 k (xs.map vDb) (xs.map vDb) i) (xs.map vDb) (fun _ _ r => r = true) (fun _ _ => True) (rd83 _) (by omega) (fun i n rest s hi hlt h0 hrd hm hw _ ih => ?_) (fun s _ => ?_) () trivial)
  · obtain ⟨x, hx, rfl⟩ := List.mem_map.1 hm
    refine EvP.succ ?_
    simp only [laws_eqDbS.l0, hlt, h0, hrd, hw, if_true]
    exact EvP.bind (eq_eDb x (hc x hx)) (EvP.ite_pos rfl (ih () trivial))
  · refine EvP.succ ?_
    simp only [laws_eqDbS.l0]
    exact EvP.ite_neg (by omega) (EvP.now rfl)
theorem sz_eAsker (x : S170) (hb : nAsker x) (a : Int) (h0 : 0 ≤ a) (h1 : a ≤ 1048576) : EvP (fun k => laws_szAsker.f x.f0 x.f1 x.f2 x.f3 x.f4 x.f5 x.f6 x.f7 a) (fun r => 0 ≤ r → r ≤ a ∧ cAsker x) := by
  obtain ⟨b0, b1⟩ := hb
  unfold laws_szAsker.f
  have e0 : wrap64 (a - (x.f1.size : Int)) = a - x.f1.size := wrap_id (by have : x.f1.size ≤ _ := b0; omega) (by omega)
  rw [e0]
  by_cases c1 : (a - x.f1.size) < 0
  · exact EvP.ite_pos c1 (EvP.now (fun h => by omega))
  refine EvP.ite_neg c1 ?_
  have e1 : wrap64 (a - x.f1.size - (x.f5.size : Int)) = a - x.f1.size - x.f5.size := wrap_id (by have : x.f5.size ≤ _ := b1; omega) (by omega)
  rw [e1]
  by_cases c : (a - x.f1.size - x.f5.size) < 0
  · exact EvP.ite_pos c (EvP.now (fun h => by omega))
  · exact EvP.ite_neg c (EvP.now (fun h => ⟨by omega, trivial⟩))
theorem sz_Asker (xs : List S170) (hb : M xs.length) (hbe : ∀ y ∈ xs, nAsker y) (a : Int) (h0 : 0 ≤ a) (h1 : a ≤ 1048576) : EvP (fun k => laws_szAskerS.f k xs a) (fun r => 0 ≤ r → r ≤ a ∧ C xs.length ∧ ∀ y ∈ xs, cAsker y) := by
  have hb' : xs.length ≤ 140737488351232 := hb
  unfold laws_szAskerS.f
  rw [wrap_sub h0 h1 hb]
  by_cases c : a - (xs.length : Int) < 0
  · exact EvP.ite_pos c (EvP.now (fun h => by omega))
  refine EvP.ite_neg c (EvP.mono (evp_list (rd_T170 xs) (fun k s i => laws_szAskerS.l0 k xs s i) xs (fun rest s r => 0 ≤ r → r ≤ s ∧ ∀ y ∈ rest, cAsker y) (fun _ s => 0 ≤ s ∧ s ≤ 1048576) (rd170 xs) (by omega) (fun i n rest s hi hlt h0i hrd hm hw hI ih => ?_) (fun s _ => ?_) (a - xs.length) ⟨by omega, by omega⟩) ?_)
  · refine EvP.succ ?_
    simp only [laws_szAskerS.l0, hlt, h0i, hrd, hw, if_true]
    refine EvP.bindP (sz_eAsker n (hbe n hm) s hI.1 hI.2) (fun r q => ?_)
    by_cases c0 : r < 0
    · exact EvP.ite_pos c0 (EvP.now (fun h => by omega))
    · refine EvP.ite_neg c0 (EvP.mono (ih r ⟨by omega, by have := (q (by omega)).1; omega⟩) (fun r' q' h => ⟨by have := (q (by omega)).1; have := (q' h).1; omega, ?_⟩))
      intro y hy
      rcases List.mem_cons.1 hy with rfl | hy
      · exact (q (by omega)).2
      · exact (q' h).2 y hy
  · refine EvP.succ ?_
    simp only [laws_szAskerS.l0]
    exact EvP.ite_neg (by omega) (EvP.now (fun h => ⟨Int.le_refl _, by simp⟩))
  · intro r q h
    exact ⟨by have := (q h).1; omega, by unfold C; omega, (q h).2⟩
theorem to_eAsker (x : S170) (hc : cAsker x) : Ev (fun k => laws_toAsker.f x.f0 x.f1 x.f2 x.f3 x.f4 x.f5 x.f6 x.f7) (x.f0, x.f1, x.f2, x.f3, x.f4, x.f5, x.f6, x.f7) := by
  exact Ev.now _
theorem eq_eAsker (x : S170) (hc : cAsker x) : Ev (fun k => laws_eqAsker.f (vAsker x).f0 (vAsker x).f1 (vAsker x).f2 (vAsker x).f3 (vAsker x).f4 (vAsker x).f5 (vAsker x).f6 (vAsker x).f7 (vAsker x).f0 (vAsker x).f1 (vAsker x).f2 (vAsker x).f3 (vAsker x).f4 (vAsker x).f5 (vAsker x).f6 (vAsker x).f7) true := by
  unfold laws_eqAsker.f
  refine Ev.ite_pos rfl ?_
  refine Ev.ite_pos rfl ?_
  refine Ev.ite_pos rfl ?_
  refine Ev.ite_pos rfl ?_
  refine Ev.ite_pos rfl ?_
  refine Ev.ite_pos rfl ?_
  refine Ev.ite_pos rfl ?_
  refine Ev.ite_pos rfl ?_
  exact Ev.now _
theorem to_Asker (xs : List S170) (hl : C xs.length) (hc : ∀ y ∈ xs, cAsker y) : Ev (fun k => laws_toAskerS.f k xs) (xs.map vAsker) := by
  have hl' : xs.length ≤ 1048576 := hl
  unfold laws_toAskerS.f
  refine Ev.ite_pos (by omega) (Ev.ite_pos (by omega) ?_)
  refine ev_fill (rd_T170 xs) (fun k s i => laws_toAskerS.l0 k xs s i) xs z81 vAsker (rd170 xs) (by omega) (fun i n s R hlt hi hs hrd hm hw ih => ?_) (fun s => ?_)
  · refine Ev.succ ?_
    simp only [laws_toAskerS.l0, hlt, hi, hs, hrd, hw, if_true, Int.toNat_natCast]
    exact Ev.bind' (to_eAsker n (hc n hm)) ih
  · refine Ev.succ ?_
    simp only [laws_toAskerS.l0]
    exact Ev.ite_neg (by omega) (Ev.now _)
theorem eq_Asker (xs : List S170) (hl : C xs.length) (hc : ∀ y ∈ xs, cAsker y) : Ev (fun k => laws_eqAskerS.f k (xs.map vAsker) (xs.map vAsker)) true := by
  have hl' : (xs.map vAsker).length ≤ 1048576 := by rw [List.length_map]; exact hl
  unfold laws_eqAskerS.f
  refine Ev.ite_pos rfl ?_
  refine EvP.ev (evp_list (rd_T81 (xs.map vAsker)) (fun k (_ : Unit) i => laws_eqAskerS.l0 k (xs.map vAsker) (xs.map vAsker) i) (xs.map vAsker) (fun _ _ r => r = true) (fun _ _ => True) (rd81 _) (by omega) (fun i n rest s hi hlt h0 hrd hm hw _ ih => ?_) (fun s _ => ?_) () trivial)
  · obtain ⟨x, hx, rfl⟩ := List.mem_map.1 hm
    refine EvP.succ ?_
    simp only [laws_eqAskerS.l0, hlt, h0, hrd, hw, if_true]
    exact EvP.bind (eq_eAsker x (hc x hx)) (EvP.ite_pos rfl (ih () trivial))
  · refine EvP.succ ?_
    simp only [laws_eqAskerS.l0]
    exact EvP.ite_neg (by omega) (EvP.now rfl)
theorem sz_eLine (x : S172) (hb : nLine x) (a : Int) (h0 : 0 ≤ a) (h1 : a ≤ 1048576) : EvP (fun k => laws_szLine.f x.f0 x.f1 x.f2 x.f3 x.f4 x.f5 x.f6 a) (fun r => 0 ≤ r → r ≤ a ∧ cLine x) := by
  have b0 := hb
  unfold laws_szLine.f
  have e0 : wrap64 (a - (x.f1.size : Int)) = a - x.f1.size := wrap_id (by have : x.f1.size ≤ _ := b0; omega) (by omega)
  rw [e0]
  by_cases c : (a - x.f1.size) < 0
  · exact EvP.ite_pos c (EvP.now (fun h => by omega))
  · exact EvP.ite_neg c (EvP.now (fun h => ⟨by omega, trivial⟩))
theorem sz_Line (xs : List S172) (hb : M xs.length) (hbe : ∀ y ∈ xs, nLine y) (a : Int) (h0 : 0 ≤ a) (h1 : a ≤ 1048576) : EvP (fun k => laws_szLineS.f k xs a) (fun r => 0 ≤ r → r ≤ a ∧ C xs.length ∧ ∀ y ∈ xs, cLine y) := by
  have hb' : xs.length ≤ 140737488351232 := hb
  unfold laws_szLineS.f
  rw [wrap_sub h0 h1 hb]
  by_cases c : a - (xs.length : Int) < 0
  · exact EvP.ite_pos c (EvP.now (fun h => by omega))
  refine EvP.ite_neg c (EvP.mono (evp_list (rd_T172 xs) (fun k s i => laws_szLineS.l0 k xs s i) xs (fun rest s r => 0 ≤ r → r ≤ s ∧ ∀ y ∈ rest, cLine y) (fun _ s => 0 ≤ s ∧ s ≤ 1048576) (rd172 xs) (by omega) (fun i n rest s hi hlt h0i hrd hm hw hI ih => ?_) (fun s _ => ?_) (a - xs.length) ⟨by omega, by omega⟩) ?_)
  · refine EvP.succ ?_
    simp only [laws_szLineS.l0, hlt, h0i, hrd, hw, if_true]
    refine EvP.bindP (sz_eLine n (hbe n hm) s hI.1 hI.2) (fun r q => ?_)
    by_cases c0 : r < 0
    · exact EvP.ite_pos c0 (EvP.now (fun h => by omega))
    · refine EvP.ite_neg c0 (EvP.mono (ih r ⟨by omega, by have := (q (by omega)).1; omega⟩) (fun r' q' h => ⟨by have := (q (by omega)).1; have := (q' h).1; omega, ?_⟩))
      intro y hy
      rcases List.mem_cons.1 hy with rfl | hy
      · exact (q (by omega)).2
      · exact (q' h).2 y hy
  · refine EvP.succ ?_
    simp only [laws_szLineS.l0]
    exact EvP.ite_neg (by omega) (EvP.now (fun h => ⟨Int.le_refl _, by simp⟩))
  · intro r q h
    exact ⟨by have := (q h).1; omega, by unfold C; omega, (q h).2⟩
theorem to_eLine (x : S172) (hc : cLine x) : Ev (fun k => laws_toLine.f x.f0 x.f1 x.f2 x.f3 x.f4 x.f5 x.f6) (x.f0, x.f1, x.f2, x.f3, x.f4, x.f5, x.f6) := by
  exact Ev.now _
theorem eq_eLine (x : S172) (hc : cLine x) : Ev (fun k => laws_eqLine.f (vLine x).f0 (vLine x).f1 (vLine x).f2 (vLine x).f3 (vLine x).f4 (vLine x).f5 (vLine x).f6 (vLine x).f0 (vLine x).f1 (vLine x).f2 (vLine x).f3 (vLine x).f4 (vLine x).f5 (vLine x).f6) true := by
  unfold laws_eqLine.f
  refine Ev.ite_pos rfl ?_
  refine Ev.ite_pos rfl ?_
  refine Ev.ite_pos rfl ?_
  refine Ev.ite_pos rfl ?_
  refine Ev.ite_pos rfl ?_
  refine Ev.ite_pos rfl ?_
  refine Ev.ite_pos rfl ?_
  exact Ev.now _
theorem to_Line (xs : List S172) (hl : C xs.length) (hc : ∀ y ∈ xs, cLine y) : Ev (fun k => laws_toLineS.f k xs) (xs.map vLine) := by
  have hl' : xs.length ≤ 1048576 := hl
  unfold laws_toLineS.f
  refine Ev.ite_pos (by omega) (Ev.ite_pos (by omega) ?_)
  refine ev_fill (rd_T172 xs) (fun k s i => laws_toLineS.l0 k xs s i) xs z165 vLine (rd172 xs) (by omega) (fun i n s R hlt hi hs hrd hm hw ih => ?_) (fun s => ?_)
  · refine Ev.succ ?_
    simp only [laws_toLineS.l0, hlt, hi, hs, hrd, hw, if_true, Int.toNat_natCast]
    exact Ev.bind' (to_eLine n (hc n hm)) ih
  · refine Ev.succ ?_
    simp only [laws_toLineS.l0]
    exact Ev.ite_neg (by omega) (Ev.now _)
theorem eq_Line (xs : List S172) (hl : C xs.length) (hc : ∀ y ∈ xs, cLine y) : Ev (fun k => laws_eqLineS.f k (xs.map vLine) (xs.map vLine)) true := by
  have hl' : (xs.map vLine).length ≤ 1048576 := by rw [List.length_map]; exact hl
  unfold laws_eqLineS.f
  refine Ev.ite_pos rfl ?_
  refine EvP.ev (evp_list (rd_T165 (xs.map vLine)) (fun k (_ : Unit) i => laws_eqLineS.l0 k (xs.map vLine) (xs.map vLine) i) (xs.map vLine) (fun _ _ r => r = true) (fun _ _ => True) (rd165 _) (by omega) (fun i n rest s hi hlt h0 hrd hm hw _ ih => ?_) (fun s _ => ?_) () trivial)
  · obtain ⟨x, hx, rfl⟩ := List.mem_map.1 hm
    refine EvP.succ ?_
    simp only [laws_eqLineS.l0, hlt, h0, hrd, hw, if_true]
    exact EvP.bind (eq_eLine x (hc x hx)) (EvP.ite_pos rfl (ih () trivial))
  · refine EvP.succ ?_
    simp only [laws_eqLineS.l0]
    exact EvP.ite_neg (by omega) (EvP.now rfl)
theorem to_eHand (x : S116) (hc : cHand x) : Ev (fun k => laws_toHand.f x.f0 x.f1 x.f2 x.f3) (x.f0, x.f1, x.f2, x.f3) := by
  exact Ev.now _
theorem eq_eHand (x : S116) (hc : cHand x) : Ev (fun k => laws_eqHand.f (vHand x).f0 (vHand x).f1 (vHand x).f2 (vHand x).f3 (vHand x).f0 (vHand x).f1 (vHand x).f2 (vHand x).f3) true := by
  unfold laws_eqHand.f
  refine Ev.ite_pos rfl ?_
  refine Ev.ite_pos rfl ?_
  refine Ev.ite_pos rfl ?_
  refine Ev.ite_pos rfl ?_
  exact Ev.now _
theorem sz_eHouse (x : S118) (hb : nHouse x) (a : Int) (h0 : 0 ≤ a) (h1 : a ≤ 1048576) : EvP (fun k => laws_szHouse.f k x.f0 x.f1 x.f2 x.f3 x.f4 x.f5 x.f6 x.f7 x.f8.f0 x.f8.f1 x.f8.f2 x.f8.f3 a) (fun r => 0 ≤ r → r ≤ a ∧ cHouse x) := by
  obtain ⟨b0, b1, b2⟩ := hb
  unfold laws_szHouse.f
  refine EvP.bindP (sz_Db x.f3 b0.1 b0.2 a h0 h1) (fun r0 q0 => ?_)
  by_cases c0 : r0 < 0
  · exact EvP.ite_pos c0 (EvP.now (fun h => by omega))
  refine EvP.ite_neg c0 ?_
  obtain ⟨p0, t0⟩ := q0 (by omega)
  replace t0 := t0.1
  refine EvP.bindP (sz_Asker x.f5 b1.1 b1.2 r0 (by omega) (by omega)) (fun r1 q1 => ?_)
  by_cases c1 : r1 < 0
  · exact EvP.ite_pos c1 (EvP.now (fun h => by omega))
  refine EvP.ite_neg c1 ?_
  obtain ⟨p1, t1⟩ := q1 (by omega)
  replace t1 := t1.1
  refine EvP.bindP (sz_Line x.f6 b2.1 b2.2 r1 (by omega) (by omega)) (fun r2 q2 => ?_)
  by_cases c2 : r2 < 0
  · exact EvP.ite_pos c2 (EvP.now (fun h => by omega))
  refine EvP.ite_neg c2 ?_
  obtain ⟨p2, t2⟩ := q2 (by omega)
  replace t2 := t2.1
  exact EvP.now (fun h => ⟨by omega, ⟨t0, t1, t2⟩⟩)
theorem sz_House (xs : List S118) (hb : M xs.length) (hbe : ∀ y ∈ xs, nHouse y) (a : Int) (h0 : 0 ≤ a) (h1 : a ≤ 1048576) : EvP (fun k => laws_szHouseS.f k xs a) (fun r => 0 ≤ r → r ≤ a ∧ C xs.length ∧ ∀ y ∈ xs, cHouse y) := by
  have hb' : xs.length ≤ 140737488351232 := hb
  unfold laws_szHouseS.f
  rw [wrap_sub h0 h1 hb]
  by_cases c : a - (xs.length : Int) < 0
  · exact EvP.ite_pos c (EvP.now (fun h => by omega))
  refine EvP.ite_neg c (EvP.mono (evp_list (rd_T118 xs) (fun k s i => laws_szHouseS.l0 k xs s i) xs (fun rest s r => 0 ≤ r → r ≤ s ∧ ∀ y ∈ rest, cHouse y) (fun _ s => 0 ≤ s ∧ s ≤ 1048576) (rd118 xs) (by omega) (fun i n rest s hi hlt h0i hrd hm hw hI ih => ?_) (fun s _ => ?_) (a - xs.length) ⟨by omega, by omega⟩) ?_)
  · refine EvP.succ ?_
    simp only [laws_szHouseS.l0, hlt, h0i, hrd, hw, if_true]
    refine EvP.bindP (sz_eHouse n (hbe n hm) s hI.1 hI.2) (fun r q => ?_)
    by_cases c0 : r < 0
    · exact EvP.ite_pos c0 (EvP.now (fun h => by omega))
    · refine EvP.ite_neg c0 (EvP.mono (ih r ⟨by omega, by have := (q (by omega)).1; omega⟩) (fun r' q' h => ⟨by have := (q (by omega)).1; have := (q' h).1; omega, ?_⟩))
      intro y hy
      rcases List.mem_cons.1 hy with rfl | hy
      · exact (q (by omega)).2
      · exact (q' h).2 y hy
  · refine EvP.succ ?_
    simp only [laws_szHouseS.l0]
    exact EvP.ite_neg (by omega) (EvP.now (fun h => ⟨Int.le_refl _, by simp⟩))
  · intro r q h
    exact ⟨by have := (q h).1; omega, by unfold C; omega, (q h).2⟩
theorem to_eHouse (x : S118) (hc : cHouse x) : Ev (fun k => laws_toHouse.f k x.f0 x.f1 x.f2 x.f3 x.f4 x.f5 x.f6 x.f7 x.f8.f0 x.f8.f1 x.f8.f2 x.f8.f3) (x.f0, x.f1, x.f2, x.f3.map vDb, x.f4, x.f5.map vAsker, x.f6.map vLine, x.f7, x.f8.f0, x.f8.f1, x.f8.f2, x.f8.f3) := by
  obtain ⟨c0, c1, c2⟩ := hc
  unfold laws_toHouse.f
  exact Ev.bind (to_Db x.f3 c0 (fun _ _ => trivial)) (Ev.bind (to_Asker x.f5 c1 (fun _ _ => trivial)) (Ev.bind (to_Line x.f6 c2 (fun _ _ => trivial)) (Ev.now _)))
theorem eq_eHouse (x : S118) (hc : cHouse x) : Ev (fun k => laws_eqHouse.f k (vHouse x).f0 (vHouse x).f1 (vHouse x).f2 (vHouse x).f3 (vHouse x).f4 (vHouse x).f5 (vHouse x).f6 (vHouse x).f7 (vHouse x).f8.f0 (vHouse x).f8.f1 (vHouse x).f8.f2 (vHouse x).f8.f3 (vHouse x).f0 (vHouse x).f1 (vHouse x).f2 (vHouse x).f3 (vHouse x).f4 (vHouse x).f5 (vHouse x).f6 (vHouse x).f7 (vHouse x).f8.f0 (vHouse x).f8.f1 (vHouse x).f8.f2 (vHouse x).f8.f3) true := by
  obtain ⟨c0, c1, c2⟩ := hc
  unfold laws_eqHouse.f
  refine Ev.ite_pos rfl ?_
  refine Ev.ite_pos rfl ?_
  refine Ev.ite_pos rfl ?_
  refine Ev.bind (eq_Db x.f3 c0 (fun _ _ => trivial)) (Ev.ite_pos rfl ?_)
  refine Ev.ite_neg (by simp) ?_
  refine Ev.bind (eq_Asker x.f5 c1 (fun _ _ => trivial)) (Ev.ite_pos rfl ?_)
  refine Ev.bind (eq_Line x.f6 c2 (fun _ _ => trivial)) (Ev.ite_pos rfl ?_)
  refine Ev.ite_pos rfl ?_
  refine Ev.bind' (eq_eHand x.f8 trivial) (Ev.ite_pos rfl ?_)
  exact Ev.now _
theorem to_House (xs : List S118) (hl : C xs.length) (hc : ∀ y ∈ xs, cHouse y) : Ev (fun k => laws_toHouseS.f k xs) (xs.map vHouse) := by
  have hl' : xs.length ≤ 1048576 := hl
  unfold laws_toHouseS.f
  refine Ev.ite_pos (by omega) (Ev.ite_pos (by omega) ?_)
  refine ev_fill (rd_T118 xs) (fun k s i => laws_toHouseS.l0 k xs s i) xs z79 vHouse (rd118 xs) (by omega) (fun i n s R hlt hi hs hrd hm hw ih => ?_) (fun s => ?_)
  · refine Ev.succ ?_
    simp only [laws_toHouseS.l0, hlt, hi, hs, hrd, hw, if_true, Int.toNat_natCast]
    exact Ev.bind' (to_eHouse n (hc n hm)) ih
  · refine Ev.succ ?_
    simp only [laws_toHouseS.l0]
    exact Ev.ite_neg (by omega) (Ev.now _)
theorem eq_House (xs : List S118) (hl : C xs.length) (hc : ∀ y ∈ xs, cHouse y) : Ev (fun k => laws_eqHouseS.f k (xs.map vHouse) (xs.map vHouse)) true := by
  have hl' : (xs.map vHouse).length ≤ 1048576 := by rw [List.length_map]; exact hl
  unfold laws_eqHouseS.f
  refine Ev.ite_pos rfl ?_
  refine EvP.ev (evp_list (rd_T79 (xs.map vHouse)) (fun k (_ : Unit) i => laws_eqHouseS.l0 k (xs.map vHouse) (xs.map vHouse) i) (xs.map vHouse) (fun _ _ r => r = true) (fun _ _ => True) (rd79 _) (by omega) (fun i n rest s hi hlt h0 hrd hm hw _ ih => ?_) (fun s _ => ?_) () trivial)
  · obtain ⟨x, hx, rfl⟩ := List.mem_map.1 hm
    refine EvP.succ ?_
    simp only [laws_eqHouseS.l0, hlt, h0, hrd, hw, if_true]
    exact EvP.bind (eq_eHouse x (hc x hx)) (EvP.ite_pos rfl (ih () trivial))
  · refine EvP.succ ?_
    simp only [laws_eqHouseS.l0]
    exact EvP.ite_neg (by omega) (EvP.now rfl)
theorem sz_ePack (x : S121) (hb : nPack x) (a : Int) (h0 : 0 ≤ a) (h1 : a ≤ 1048576) : EvP (fun k => laws_szPack.f x.f0 x.f1 a) (fun r => 0 ≤ r → r ≤ a ∧ cPack x) := by
  have b0 := hb
  unfold laws_szPack.f
  obtain ⟨r0, e0, q0⟩ := sz_B x.f1 b0 a h0 h1
  refine EvP.bindE e0 ?_
  by_cases c0 : r0 < 0
  · exact EvP.ite_pos c0 (EvP.now (fun h => by omega))
  refine EvP.ite_neg c0 ?_
  obtain ⟨p0, t0⟩ := q0 (by omega)
  exact EvP.now (fun h => ⟨by omega, t0⟩)
theorem sz_Pack (xs : List S121) (hb : M xs.length) (hbe : ∀ y ∈ xs, nPack y) (a : Int) (h0 : 0 ≤ a) (h1 : a ≤ 1048576) : EvP (fun k => laws_szPackS.f k xs a) (fun r => 0 ≤ r → r ≤ a ∧ C xs.length ∧ ∀ y ∈ xs, cPack y) := by
  have hb' : xs.length ≤ 140737488351232 := hb
  unfold laws_szPackS.f
  rw [wrap_sub h0 h1 hb]
  by_cases c : a - (xs.length : Int) < 0
  · exact EvP.ite_pos c (EvP.now (fun h => by omega))
  refine EvP.ite_neg c (EvP.mono (evp_list (rd_T121 xs) (fun k s i => laws_szPackS.l0 k xs s i) xs (fun rest s r => 0 ≤ r → r ≤ s ∧ ∀ y ∈ rest, cPack y) (fun _ s => 0 ≤ s ∧ s ≤ 1048576) (rd121 xs) (by omega) (fun i n rest s hi hlt h0i hrd hm hw hI ih => ?_) (fun s _ => ?_) (a - xs.length) ⟨by omega, by omega⟩) ?_)
  · refine EvP.succ ?_
    simp only [laws_szPackS.l0, hlt, h0i, hrd, hw, if_true]
    refine EvP.bindP (sz_ePack n (hbe n hm) s hI.1 hI.2) (fun r q => ?_)
    by_cases c0 : r < 0
    · exact EvP.ite_pos c0 (EvP.now (fun h => by omega))
    · refine EvP.ite_neg c0 (EvP.mono (ih r ⟨by omega, by have := (q (by omega)).1; omega⟩) (fun r' q' h => ⟨by have := (q (by omega)).1; have := (q' h).1; omega, ?_⟩))
      intro y hy
      rcases List.mem_cons.1 hy with rfl | hy
      · exact (q (by omega)).2
      · exact (q' h).2 y hy
  · refine EvP.succ ?_
    simp only [laws_szPackS.l0]
    exact EvP.ite_neg (by omega) (EvP.now (fun h => ⟨Int.le_refl _, by simp⟩))
  · intro r q h
    exact ⟨by have := (q h).1; omega, by unfold C; omega, (q h).2⟩
theorem to_ePack (x : S121) (hc : cPack x) : Ev (fun k => laws_toPack.f k x.f0 x.f1) (x.f0, x.f1) := by
  have c0 := hc
  unfold laws_toPack.f
  exact Ev.bind (to_B x.f1 c0) (Ev.now _)
theorem eq_ePack (x : S121) (hc : cPack x) : Ev (fun k => laws_eqPack.f k (vPack x).f0 (vPack x).f1 (vPack x).f0 (vPack x).f1) true := by
  have c0 := hc
  unfold laws_eqPack.f
  refine Ev.ite_pos rfl ?_
  refine Ev.bind (eq_B x.f1 c0) (Ev.ite_pos rfl ?_)
  exact Ev.now _
theorem to_Pack (xs : List S121) (hl : C xs.length) (hc : ∀ y ∈ xs, cPack y) : Ev (fun k => laws_toPackS.f k xs) (xs.map vPack) := by
  have hl' : xs.length ≤ 1048576 := hl
  unfold laws_toPackS.f
  refine Ev.ite_pos (by omega) (Ev.ite_pos (by omega) ?_)
  refine ev_fill (rd_T121 xs) (fun k s i => laws_toPackS.l0 k xs s i) xs z126 vPack (rd121 xs) (by omega) (fun i n s R hlt hi hs hrd hm hw ih => ?_) (fun s => ?_)
  · refine Ev.succ ?_
    simp only [laws_toPackS.l0, hlt, hi, hs, hrd, hw, if_true, Int.toNat_natCast]
    exact Ev.bind' (to_ePack n (hc n hm)) ih
  · refine Ev.succ ?_
    simp only [laws_toPackS.l0]
    exact Ev.ite_neg (by omega) (Ev.now _)
theorem eq_Pack (xs : List S121) (hl : C xs.length) (hc : ∀ y ∈ xs, cPack y) : Ev (fun k => laws_eqPackS.f k (xs.map vPack) (xs.map vPack)) true := by
  have hl' : (xs.map vPack).length ≤ 1048576 := by rw [List.length_map]; exact hl
  unfold laws_eqPackS.f
  refine Ev.ite_pos rfl ?_
  refine EvP.ev (evp_list (rd_T126 (xs.map vPack)) (fun k (_ : Unit) i => laws_eqPackS.l0 k (xs.map vPack) (xs.map vPack) i) (xs.map vPack) (fun _ _ r => r = true) (fun _ _ => True) (rd126 _) (by omega) (fun i n rest s hi hlt h0 hrd hm hw _ ih => ?_) (fun s _ => ?_) () trivial)
  · obtain ⟨x, hx, rfl⟩ := List.mem_map.1 hm
    refine EvP.succ ?_
    simp only [laws_eqPackS.l0, hlt, h0, hrd, hw, if_true]
    exact EvP.bind (eq_ePack x (hc x hx)) (EvP.ite_pos rfl (ih () trivial))
  · refine EvP.succ ?_
    simp only [laws_eqPackS.l0]
    exact EvP.ite_neg (by omega) (EvP.now rfl)
def nWorld (x : S37) : Prop := (M x.f1.f0.length ∧ ∀ y ∈ x.f1.f0, M y.length) ∧ (M x.f1.f1.length ∧ ∀ y ∈ x.f1.f1, nWr y) ∧ (M x.f2.length ∧ ∀ y ∈ x.f2, nSock y) ∧ (M x.f3.length ∧ ∀ y ∈ x.f3, nHouse y) ∧ (M x.f4.length ∧ ∀ y ∈ x.f4, nPack y) ∧ M x.f5.length
def cWorld (x : S37) : Prop := (C x.f1.f0.length ∧ ∀ y ∈ x.f1.f0, C y.length) ∧ (C x.f1.f1.length ∧ ∀ y ∈ x.f1.f1, cWr y) ∧ (C x.f2.length ∧ ∀ y ∈ x.f2, cSock y) ∧ (C x.f3.length ∧ ∀ y ∈ x.f3, cHouse y) ∧ (C x.f4.length ∧ ∀ y ∈ x.f4, cPack y) ∧ C x.f5.length
theorem sz_Disk (x : S32) (hs : M x.f0.length ∧ ∀ y ∈ x.f0, M y.length) (hw : M x.f1.length ∧ ∀ y ∈ x.f1, nWr y) (a : Int) (h0 : 0 ≤ a) (h1 : a ≤ 1048576) : EvP (fun k => laws_szDisk.f k x.f0 x.f1 x.f2 x.f3 a) (fun r => 0 ≤ r → r ≤ a ∧ (C x.f0.length ∧ ∀ y ∈ x.f0, C y.length) ∧ C x.f1.length ∧ ∀ y ∈ x.f1, cWr y) := by
  unfold laws_szDisk.f
  refine EvP.bindP (sz_BS x.f0 hs.1 hs.2 a h0 h1) (fun r0 q0 => ?_)
  by_cases c0 : r0 < 0
  · exact EvP.ite_pos c0 (EvP.now (fun h => by omega))
  refine EvP.ite_neg c0 ?_
  obtain ⟨p0, t0⟩ := q0 (by omega)
  refine EvP.bindP (sz_Wr x.f1 hw.1 hw.2 r0 (by omega) (by omega)) (fun r1 q1 => ?_)
  by_cases c1 : r1 < 0
  · exact EvP.ite_pos c1 (EvP.now (fun h => by omega))
  refine EvP.ite_neg c1 ?_
  obtain ⟨p1, t1⟩ := q1 (by omega)
  exact EvP.now (fun h => ⟨by omega, t0, t1⟩)
theorem sz_World (x : S37) (hb : nWorld x) (a : Int) (h0 : 0 ≤ a) (h1 : a ≤ 1048576) : EvP (fun k => laws_szWorld.f k x.f0 x.f1.f0 x.f1.f1 x.f1.f2 x.f1.f3 x.f2 x.f3 x.f4 x.f5 x.f6 x.f7 a) (fun r => 0 ≤ r → cWorld x) := by
  obtain ⟨b0, b1, b2, b3, b4, b5⟩ := hb
  unfold laws_szWorld.f
  refine EvP.bindP (sz_Disk x.f1 b0 b1 a h0 h1) (fun r0 q0 => ?_)
  by_cases c0 : r0 < 0
  · exact EvP.ite_pos c0 (EvP.now (fun h => by omega))
  refine EvP.ite_neg c0 ?_
  obtain ⟨p0, t0, t1⟩ := q0 (by omega)
  refine EvP.bindP (sz_Sock x.f2 b2.1 b2.2 r0 (by omega) (by omega)) (fun r1 q1 => ?_)
  by_cases c1 : r1 < 0
  · exact EvP.ite_pos c1 (EvP.now (fun h => by omega))
  refine EvP.ite_neg c1 ?_
  obtain ⟨p1, t2⟩ := q1 (by omega)
  refine EvP.bindP (sz_House x.f3 b3.1 b3.2 r1 (by omega) (by omega)) (fun r2 q2 => ?_)
  by_cases c2 : r2 < 0
  · exact EvP.ite_pos c2 (EvP.now (fun h => by omega))
  refine EvP.ite_neg c2 ?_
  obtain ⟨p2, t3⟩ := q2 (by omega)
  refine EvP.bindP (sz_Pack x.f4 b4.1 b4.2 r2 (by omega) (by omega)) (fun r3 q3 => ?_)
  by_cases c3 : r3 < 0
  · exact EvP.ite_pos c3 (EvP.now (fun h => by omega))
  refine EvP.ite_neg c3 ?_
  obtain ⟨p3, t4⟩ := q3 (by omega)
  obtain ⟨r4, e4, q4⟩ := sz_Note x.f5 b5 r3 (by omega) (by omega)
  refine EvP.bindE e4 ?_
  by_cases c4 : r4 < 0
  · exact EvP.ite_pos c4 (EvP.now (fun h => by omega))
  refine EvP.ite_neg c4 ?_
  obtain ⟨p4, t5⟩ := q4 (by omega)
  exact EvP.now (fun h => ⟨t0, t1, t2, t3, t4, t5⟩)
theorem to_World (x : S37) (hc : cWorld x) : Ev (fun k => laws_toWorld.f k x.f0 x.f1.f0 x.f1.f1 x.f1.f2 x.f1.f3 x.f2 x.f3 x.f4 x.f5 x.f6 x.f7) (x.f0, x.f1.f0, x.f1.f1.map vWr, x.f1.f2, x.f1.f3, x.f2.map vSock, x.f3.map vHouse, x.f4.map vPack, x.f5.map vNote, x.f6, x.f7) := by
  obtain ⟨c0, c1, c2, c3, c4, c5⟩ := hc
  unfold laws_toWorld.f laws_toDisk.f
  exact Ev.bind (Ev.bind (to_BS _ c0.1 c0.2) (Ev.bind (to_Wr _ c1.1 c1.2) (Ev.now _))) (Ev.bind (to_Sock _ c2.1 c2.2) (Ev.bind (to_House _ c3.1 c3.2) (Ev.bind (to_Pack _ c4.1 c4.2) (Ev.bind (to_Note _ c5 (fun _ _ => trivial)) (Ev.now _)))))
theorem eq_World (x : S37) (hc : cWorld x) : Ev (fun k => laws_eqWorld.f k x.f0 x.f1.f0 (x.f1.f1.map vWr) x.f1.f2 x.f1.f3 (x.f2.map vSock) (x.f3.map vHouse) (x.f4.map vPack) (x.f5.map vNote) x.f6 x.f7 x.f0 x.f1.f0 (x.f1.f1.map vWr) x.f1.f2 x.f1.f3 (x.f2.map vSock) (x.f3.map vHouse) (x.f4.map vPack) (x.f5.map vNote) x.f6 x.f7) true := by
  obtain ⟨c0, c1, c2, c3, c4, c5⟩ := hc
  unfold laws_eqWorld.f laws_eqDisk.f
  refine Ev.ite_pos rfl ?_
  refine Ev.bind (a := true) (Ev.bind (eq_BS _ c0.1 c0.2) (Ev.ite_pos rfl (Ev.bind (eq_Wr _ c1.1 c1.2) (Ev.ite_pos rfl (Ev.ite_pos rfl (Ev.ite_neg (by simp) (Ev.now _))))))) (Ev.ite_pos rfl ?_)
  refine Ev.bind (eq_Sock _ c2.1 c2.2) (Ev.ite_pos rfl ?_)
  refine Ev.bind (eq_House _ c3.1 c3.2) (Ev.ite_pos rfl ?_)
  refine Ev.bind (eq_Pack _ c4.1 c4.2) (Ev.ite_pos rfl ?_)
  refine Ev.bind (eq_Note _ c5 (fun _ _ => trivial)) (Ev.ite_pos rfl (Ev.ite_pos rfl (Ev.ite_pos rfl (Ev.now _))))
end Go.Proofs.Ytgcelhejmpcchaa.Wd
