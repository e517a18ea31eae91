/-  A value that came in, read as data, is of its kind (Kd): whole numbers, bools, strings, structs and slices of these; with the bounds that a row's reading gives. -/
import Derived.Test.YtgcelhejmpcchaaWWords
import Derived.SizedLaws
import Derived.Deep.Slices
import Derived.Deep.Fields
import Derived.ChangeSame
namespace Go.Proofs.Ytgcelhejmpcchaa.Opn
open Go.ChangeShapes Go.WideShapes Go.Deep Go.Proofs.YtgcelhejmpcchaaW.PrintWords
set_option linter.unusedVariables false

/-- Whatever reads as data of type t is of the kind d, within the bounds B. -/
def Opens (P : Program) (t : TypeId) {α : Type} (d : Kd α) (B : α → Prop) : Prop :=
  P.cellsOf t = d.sz ∧
  ∀ (H : Type) (enc : TypeId × Value → H) (w : World) (base : Nat) (spare : Nat → Bool) (held : Bool) (fuel : Nat) (cs : List Value) (x : DataW H × List MemPlace),
    DataW.trod enc P w base spare held fuel t cs = some x → (∀ n ∈ x.1.weights P t, n ≤ reachBytes) → ∃ a, d.K w a cs ∧ B a

theorem opens_int {P : Program} {t : TypeId} {k : IntKind} (hu : P.underlying t = some (.int k)) (hc : P.cellsOf t = 1) :
    Opens P t (Kd.int k) (fun n => (Lit.int k n).wf = true) := by
  refine ⟨hc, fun H enc w base spare held fuel cs x h hw => ?_⟩
  obtain ⟨n, rfl, _, hn⟩ := DataW.trod_int hu h
  exact ⟨n, rfl, hn⟩

theorem opens_bool {P : Program} {t : TypeId} (hu : P.underlying t = some .bool) (hc : P.cellsOf t = 1) :
    Opens P t Kd.bool (fun _ => True) := by
  refine ⟨hc, fun H enc w base spare held fuel cs x h hw => ?_⟩
  obtain ⟨b, rfl, _⟩ := DataW.trod_bool hu h
  exact ⟨b, rfl, trivial⟩

theorem opens_string {P : Program} {t : TypeId} (hu : P.underlying t = some .string) (hc : P.cellsOf t = 1) :
    Opens P t Kd.string (fun s => s.size ≤ 140737488351232) := by
  refine ⟨hc, fun H enc w base spare held fuel cs x h hw => ?_⟩
  obtain ⟨s, rfl, rfl, _⟩ := DataW.trod_string hu h
  have := hw s.data.toList.length (by simp [DataW.weights])
  rw [Array.length_toList] at this
  exact ⟨s, rfl, this⟩

/-- The fields of a struct from a place on. -/
def OpensAt (P : Program) (fs : List Field) (o : Nat) {α : Type} (d : Kd α) (B : α → Prop) : Prop :=
  ∀ (H : Type) (enc : TypeId × Value → H) (w : World) (base : Nat) (spare : Nat → Bool) (held : Bool) (fuel : Nat) (cs : List Value) (xs : List (DataW H × List MemPlace)),
    (∀ (i : Nat) (f : Field), fs[i]? = some f → ∃ y, xs[i]? = some y ∧ DataW.trod enc P w base spare held fuel f.type ((cs.drop f.offset).take (P.cellsOf f.type)) = some y ∧ ∀ n ∈ y.1.weights P f.type, n ≤ reachBytes) →
    (cs.drop o).length = d.sz → ∃ a, d.K w a (cs.drop o) ∧ B a

theorem opensAt_one {P : Program} {f : Field} {o : Nat} {α : Type} {d : Kd α} {B : α → Prop} (ho : f.offset = o) (h : Opens P f.type d B) : OpensAt P [f] o d B := by
  intro H enc w base spare held fuel cs xs hx hl
  obtain ⟨y, _, ht, hw⟩ := hx 0 f rfl
  rw [ho, h.1, List.take_of_length_le (Nat.le_of_eq hl)] at ht
  exact h.2 H enc w base spare held fuel _ y ht hw

theorem opensAt_cons {P : Program} {f : Field} {fs : List Field} {o o' : Nat} {α β : Type} {d : Kd α} {d' : Kd β} {B : α → Prop} {B' : β → Prop}
    (ho : f.offset = o) (ho' : o + d.sz = o') (h : Opens P f.type d B) (h' : OpensAt P fs o' d' B') : OpensAt P (f :: fs) o (Kd.pair d d') (fun x => B x.1 ∧ B' x.2) := by
  intro H enc w base spare held fuel cs xs hx hl
  obtain ⟨y, _, ht, hw⟩ := hx 0 f rfl
  rw [ho, h.1] at ht
  obtain ⟨a, ha, hb⟩ := h.2 H enc w base spare held fuel _ y ht hw
  have hl2 : (cs.drop o).length = d.sz + d'.sz := hl
  obtain ⟨a', ha', hb'⟩ := h' H enc w base spare held fuel cs xs.tail (fun i g hg => by
    obtain ⟨y, hy, r⟩ := hx (i + 1) g hg
    exact ⟨y, by rw [List.getElem?_tail]; exact hy, r⟩) (by rw [← ho', ← List.drop_drop, List.length_drop, hl2]; omega)
  exact ⟨(a, a'), ⟨(cs.drop o).take d.sz, cs.drop o', by rw [← ho', ← List.drop_drop]; exact (List.take_append_drop _ _).symm, ha, ha'⟩, hb, hb'⟩

theorem each_mem {P : Program} {H : Type} : ∀ (ts : List TypeId) (ds : List (DataW H)) (i : Nat) (t : TypeId) (d : DataW H), ts[i]? = some t → ds[i]? = some d → ∀ n ∈ d.weights P t, n ∈ DataW.weightsEach P ts ds :=
  fun ts ds i t d ht hd n hn => DataW.weights_mem_each ht hd n hn

theorem opens_struct {P : Program} {t : TypeId} {fs : Array Field} {α : Type} {d : Kd α} {B : α → Prop} (hu : P.underlying t = some (.struct fs)) (hc : P.cellsOf t = d.sz) (h : OpensAt P fs.toList 0 d B) : Opens P t d B := by
  refine ⟨hc, fun H enc w base spare held fuel cs x hx hw => ?_⟩
  obtain ⟨xs, n, rfl, rfl, hl, hn, hf⟩ := DataW.trod_struct hu hx
  refine h H enc w base spare held n cs xs (fun i f hi => ?_) (by rw [List.drop_zero, hl, hc])
  have hi' : fs[i]? = some f := by simpa using hi
  have hlt : i < fs.size := (Array.getElem?_eq_some_iff.1 hi').1
  have hy : xs[i]? = some (xs[i]'(by omega)) := List.getElem?_eq_getElem (by omega)
  refine ⟨_, hy, (hf i f hi').trans hy, fun m hm => hw m ?_⟩
  simp only [DataW.weights, hu]
  exact each_mem _ _ i f.type _ (by simp [hi']) (by rw [List.getElem?_map, hy]; rfl) m hm

theorem opens_iso {P : Program} {t : TypeId} {α β : Type} {d : Kd α} {B : α → Prop} {f : β → α} (g : α → β) (hg : ∀ a, f (g a) = a) (h : Opens P t d B) : Opens P t (Kd.iso d f) (fun x => B (f x)) := by
  refine ⟨h.1, fun H enc w base spare held fuel cs x hx hw => ?_⟩
  obtain ⟨a, ha, hb⟩ := h.2 H enc w base spare held fuel cs x hx hw
  exact ⟨g a, by show d.K w (f (g a)) cs; rw [hg]; exact ha, by show B (f (g a)); rw [hg]; exact hb⟩

theorem all_mem {P : Program} {H : Type} {e : TypeId} : ∀ (ds : List (DataW H)) (d : DataW H), d ∈ ds → ∀ n ∈ d.weights P e, n ∈ DataW.weightsAll P e ds
  | [], _, h, _, _ => by cases h
  | d0 :: r, d, h, n, hn => by
    simp only [DataW.weightsAll, List.mem_append]
    rcases List.mem_cons.1 h with rfl | h
    · exact Or.inl hn
    · exact Or.inr (all_mem r d h n hn)

theorem opens_slice {P : Program} {t e : TypeId} {α : Type} [Inhabited α] {d : Kd α} {B : α → Prop} {q by_ : Nat} (hu : P.underlying t = some (.slice e)) (hct : P.cellsOf t = 1) (hb : P.bytesOf e = by_) (h : Opens P e d B) :
    Opens P t (Kd.slice q d) (fun xs => xs.length * by_ ≤ 140737488351232 ∧ xs.length ≤ maxLen ∧ ∀ x ∈ xs, B x) := by
  refine ⟨hct, fun H enc w base spare held fuel cs x hx hw => ?_⟩
  rcases open_slice hu hx with ⟨rfl, rfl⟩ | ⟨a, len, cap, m, n, D, Pl, rfl, _, hlc, hcm, hm, rfl, hi⟩
  · exact ⟨[], ⟨none, 0, rfl, Nat.le_refl _, rfl, Nat.zero_le _, fun hn => absurd hn (Nat.lt_irrefl _)⟩, by simp, by simp, fun x hx => by cases hx⟩
  · have hlm : len ≤ m := by rw [hm]; split <;> omega
    have hw1 : len * by_ ≤ reachBytes := by
      have := hw (((List.range len).map D).length * P.bytesOf e + ((List.range (m - len)).map fun j => D (len + j)).length * P.bytesOf e) (by simp [DataW.weights, hu, Nat.add_mul])
      simp only [List.length_map, List.length_range, hb] at this
      omega
    obtain ⟨V, hV⟩ := choose_lt (α := α) (n := len) (p := fun i v => ∃ cs', w.cells? base (a.add (i * P.cellsOf e)) (P.cellsOf e) = some cs' ∧ d.K w v cs' ∧ B v) (fun i hil => by
      obtain ⟨cs', hc', ht'⟩ := hi i (by omega)
      obtain ⟨v, hv, hB⟩ := h.2 H enc w base spare held n cs' _ ht' (fun k hk => hw k (by
        simp only [DataW.weights, hu, List.mem_cons, List.mem_append]
        exact .inr (.inl (all_mem _ (D i) (by simp; exact ⟨i, hil, rfl⟩) k hk))))
      exact ⟨v, cs', hc', hv, hB⟩)
    refine ⟨(List.range len).map V, ⟨some a, cap, by simp, by simpa using hlc, ?_⟩, by simpa using (show len * by_ ≤ 140737488351232 from hw1), by simp; omega, ?_⟩
    · refine ⟨by simp, by simp only [List.length_map, List.length_range]; simp only [maxLen] at hcm; omega, fun hn => ⟨a, rfl, fun j p hj => ?_⟩⟩
      have hjl : j < len := by have := (List.getElem?_eq_some_iff.1 hj).1; simpa using this
      obtain ⟨cs', h1, h2, _⟩ := hV j hjl
      have hp : p = V j := by simpa [hjl] using hj.symm
      subst hp
      obtain ⟨_, hcl, hat⟩ := World.cells?_some h1
      rw [h.1] at hcl hat h1
      refine ⟨cs', hcl, h2, fun i u hu => ?_⟩
      have hil : i < d.sz := by have := (List.getElem?_eq_some_iff.1 hu).1; omega
      rw [← Go.Deep.add_add, ← hu, ← h.1]
      rw [h.1] at *
      exact hat i hil
    · intro x hx
      obtain ⟨i, hil, rfl⟩ := List.mem_map.1 hx
      obtain ⟨_, _, _, hB⟩ := hV i (List.mem_range.1 hil)
      exact hB
end Go.Proofs.Ytgcelhejmpcchaa.Opn
