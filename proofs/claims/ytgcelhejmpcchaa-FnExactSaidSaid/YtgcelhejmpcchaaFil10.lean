/- Regions: operations one behind the other; operations in an order that is drawn. -/
import Derived.Test.YtgcelhejmpcchaaFil9
import Derived.Orders
set_option linter.unusedSectionVars false
namespace Go.Fil
open Go.RowKit
set_option linter.unusedVariables false
set_option linter.unusedSimpArgs false
theorem list_set_self {α : Type} {l : List α} {i : Nat} {x : α} (h : l[i]? = some x) : l.set i x = l := by
  apply List.ext_getElem?
  intro j
  rw [List.getElem?_set]
  by_cases e : i = j
  · subst e; rw [h]; simp [(List.getElem?_eq_some_iff.1 h).1]
  · simp [e]
section
variable [Lin] {P : Program} {E : Env} {ops : Array Oper} {o : Oper} {a : Act} {w : World} {Q : Exit → Act → World → Prop} {B : Nat} {okA : Nat → Prop} {w0 : World} {β : Nat → Value} {st : St} {ρ : Type} {r : ρ} {K1 : St → Option ρ}
theorem guard_sound (hs : Sim B okA w0 β st a w) {Ka Kb : St → Option ρ} (h : guardK ops o st Ka Kb = some r) : (Region.wanted o (yielded ops a.tmps) = true ∧ Ka st = some r) ∨ (Region.wanted o (yielded ops a.tmps) = false ∧ Kb st = some r) := by
  unfold guardK at h
  split at h
  · rename_i hg
    exact .inl ⟨by simp [Region.wanted, hg], h⟩
  · rename_i j want hg
    split at h
    · rename_i t ht
      split at h
      · rename_i fr b hA
        have hv := hs.tm t _ hA
        have hb := bool_of_V hv
        have hlt : t < a.tmps.size := by rw [hs.len]; exact (List.getElem?_eq_some_iff.1 hA).1
        have hy : yielded ops a.tmps j = some b := by
          unfold yielded
          rw [ht]
          have : a.tmps[t]? = some (.bool b) := by
            rw [Array.getElem?_eq_getElem hlt]
            rw [Array.getD_eq_getD_getElem?, Array.getElem?_eq_getElem hlt] at hb
            simpa using hb
          simp [this]
        have hw : Region.wanted o (yielded ops a.tmps) = (some b == some want) := by simp [Region.wanted, hg, hy]
        rw [hw]
        rcases br_some h with ⟨hb', h⟩ | ⟨hb', h⟩
        · subst hb'
          have hst : ({ tm := st.tm.set t (.d .bool fr true), ob := st.ob } : St) = st := by rw [list_set_self hA]
          simp only [hst] at h
          cases want
          · exact .inr ⟨rfl, h⟩
          · exact .inl ⟨rfl, h⟩
        · subst hb'
          have hst : ({ tm := st.tm.set t (.d .bool fr false), ob := st.ob } : St) = st := by rw [list_set_self hA]
          simp only [hst] at h
          cases want
          · exact .inl ⟨rfl, h⟩
          · exact .inr ⟨rfl, h⟩
      · rename_i hA
        have hv : a.tmps.getD t undef = undef := hs.tm t _ hA
        have hy : yielded ops a.tmps j = none := by
          unfold yielded
          rw [ht]
          have hlt : t < a.tmps.size := by rw [hs.len]; exact (List.getElem?_eq_some_iff.1 hA).1
          have : a.tmps[t]? = some undef := by
            rw [Array.getElem?_eq_getElem hlt]
            rw [Array.getD_eq_getD_getElem?, Array.getElem?_eq_getElem hlt] at hv
            simpa using hv
          simp [this, undef]
        exact .inr ⟨by simp [Region.wanted, hg, hy], h⟩
      · cases h
    · cases h
theorem step_sound (he : EnvOk P E) (hs : Sim B okA w0 β st a w) {dr : Bool} {i : Nat} (ho : ops[i]? = some o) (h : stepK E dr ops o st K1 = some r) {next : Act → World → Prop}
    (hn : ∀ β' st' a' w', Sim B okA w0 β' st' a' w' → K1 st' = some r → next a' w') : wpOp P ops Q i next a w := by
  unfold wpOp
  rw [ho]
  show if Region.wanted o (yielded ops a.tmps) = true then _ else _
  unfold stepK at h
  rcases guard_sound hs h with ⟨hw, h⟩ | ⟨hw, h⟩
  · rw [if_pos hw]
    refine .inl ?_
    split at h
    · exact comp_sound he hs h (fun A v w1 hg hA hk => hn _ _ _ _ ((hs.grow hg).set hA o.dst) hk)
    · exact eff_sound he (hs.freezeAll _) h hn
  · rw [if_neg (by simp [hw])]
    exact hn _ _ _ _ (hs.set (A := .no) rfl o.dst) h
theorem ops_sound (he : EnvOk P E) : ∀ (l : List Oper) (idx : List Nat), idx.map (fun i => ops[i]?) = l.map some → ∀ {β : Nat → Value} {st : St} {a : Act} {w : World}, Sim B okA w0 β st a w → opsK E false ops l st K1 = some r →
    (∀ β' st' a' w', Sim B okA w0 β' st' a' w' → K1 st' = some r → Q .normal a' w') → wpOps P ops Q idx a w
  | [], [], _, β, st, a, w, hs, h, hq => by
    simp only [wpOps]
    exact hq _ _ _ _ hs h
  | o :: l, i :: idx, hi, β, st, a, w, hs, h, hq => by
    simp only [List.map_cons, List.cons.injEq] at hi
    rw [wpOps_cons]
    exact step_sound he hs hi.1 h (fun β' st' a' w' hs' h' => ops_sound he l idx hi.2 hs' h' hq)
  | [], _ :: _, hi, _, _, _, _, _, _, _ => by simp at hi
  | _ :: _, [], hi, _, _, _, _, _, _, _ => by simp at hi

/-! ### orders that are drawn -/
theorem br_bind {σ : Type} (c : Bool) (x y : Option ρ) (F : ρ → Option σ) : (br c x y).bind F = br c (x.bind F) (y.bind F) := by cases c <;> rfl
theorem bndK_bind {σ : Type} (A : A) (top : Nat) (F : Nat → Option ρ) (G : ρ → Option σ) : (bndK A top F).bind G = bndK A top (fun n => (F n).bind G) := by
  unfold bndK; split <;> simp [br_bind]
theorem lenK_bind {σ : Type} (ob : List (Option Ob)) (A : A) (F : Fil.A → Option ρ) (G : ρ → Option σ) : (lenK ob A F).bind G = lenK ob A (fun n => (F n).bind G) := by
  unfold lenK; split <;> (try rfl)
  all_goals (split <;> rfl)
theorem intK_bind {σ : Type} (op : BinOp) (k : IntKind) (x y : Int) (F : A → Option ρ) (G : ρ → Option σ) : (intK op k x y F).bind G = intK op k x y (fun n => (F n).bind G) := by
  cases op <;> simp [intK, br_bind]
theorem shK_bind {σ : Type} (op : BinOp) (k : IntKind) (x y : Int) (F : A → Option ρ) (G : ρ → Option σ) : (shK op k x y F).bind G = shK op k x y (fun n => (F n).bind G) := by
  cases op <;> simp [shK, br_bind]
theorem strK_bind {σ : Type} (op : BinOp) (x y : ByteArray) (F : A → Option ρ) (G : ρ → Option σ) : (strK op x y F).bind G = strK op x y (fun n => (F n).bind G) := by
  cases op <;> simp [strK, br_bind]
theorem boolK_bind {σ : Type} (op : BinOp) (x y : Bool) (F : A → Option ρ) (G : ρ → Option σ) : (boolK op x y F).bind G = boolK op x y (fun n => (F n).bind G) := by
  cases op <;> simp [boolK, br_bind]
theorem binK_bind {σ : Type} (E : Env) (op : BinOp) (xt : Nat) (x y : A) (F : A → Option ρ) (G : ρ → Option σ) : (binK E op xt x y F).bind G = binK E op xt x y (fun n => (F n).bind G) := by
  unfold binK
  split
  · split
    · exact shK_bind _ _ _ _ _ _
    · split
      · exact intK_bind _ _ _ _ _ _
      · rfl
  · exact strK_bind _ _ _ _ _
  · split
    · split
      · exact boolK_bind _ _ _ _ _
      · rfl
    · rfl
  · split
    · split
      · split
        · exact boolK_bind _ _ _ _ _
        · rfl
      · rfl
    · rfl
  · rfl
theorem callK_bind {σ : Type} (E : Env) (f : FuncId) (ts : List Nat) (xs : List A) (F : A → Option ρ) (G : ρ → Option σ) : (callK E f ts xs F).bind G = callK E f ts xs (fun n => (F n).bind G) := by
  unfold callK
  split
  · split
    · rw [Option.bind_assoc]
    · rfl
  · rfl
theorem blenK_bind {σ : Type} (E : Env) (ob : List (Option Ob)) (t : Nat) (v : A) (F : A → Option ρ) (G : ρ → Option σ) : (builtinLenK E ob t v F).bind G = builtinLenK E ob t v (fun n => (F n).bind G) := by
  unfold builtinLenK
  split
  · split
    · split
      · rfl
      · exact lenK_bind _ _ _ _
    · split
      · exact lenK_bind _ _ _ _
      · rfl
    · rfl
  · rfl
theorem compK_bind {σ : Type} (E : Env) (o : Oper) (val : Operand → A) (ob : List (Option Ob)) (F : A → Option ρ) (G : ρ → Option σ) : (compK E o val ob F).bind G = compK E o val ob (fun n => (F n).bind G) := by
  unfold compK
  split
  · rfl
  · rfl
  · split
    · exact br_bind _ _ _ _
    · rfl
  · split
    · split <;> rfl
    · split
      · split <;> rfl
      · rfl
    · split <;> rfl
    · split <;> rfl
    · split <;> rfl
    · split
      · split <;> rfl
      · rfl
    · rfl
  · split <;> rfl
  · exact binK_bind _ _ _ _ _ _ _
  · split <;> rfl
  · split
    · split <;> rfl
    · split <;> rfl
    · split
      · split <;> rfl
      · rfl
    · rfl
  · rename_i t x lo hi mx _
    split
    · rfl
    · split
      · split
        · cases hi <;> cases lo <;> simp [bndK_bind]
        · rfl
      · split
        · cases hi <;> cases lo <;> simp [bndK_bind]
        · rfl
      · rfl
  · split
    · split
      · split
        · split
          · split <;> rfl
          · rfl
        · split <;> rfl
        · split <;> rfl
        · split
          · split <;> rfl
          · rfl
        · split
          · split <;> rfl
          · rfl
        · split <;> rfl
        · rfl
      · rfl
    · rfl
  · split
    · split
      · split
        · split
          · split <;> rfl
          · rfl
        · rfl
      · rfl
    · rfl
  · split
    · split
      · exact br_bind _ _ _ _
      · rfl
    · split
      · exact br_bind _ _ _ _
      · rfl
    · split
      · split
        · exact br_bind _ _ _ _
        · rfl
      · rfl
    · split
      · split
        · exact br_bind _ _ _ _
        · rfl
      · rfl
    · rfl
  · split
    · split
      · exact br_bind _ _ _ _
      · rfl
    · rfl
  · split
    · split <;> rfl
    · rfl
  · split
    · split
      · split <;> rfl
      · rfl
    · rfl
  · split
    · split
      · exact blenK_bind _ _ _ _ _ _
      · rfl
    · exact callK_bind _ _ _ _ _ _
    · rfl
  · rfl
theorem compK_congr {val val' : Operand → A} (h : ∀ x, x ∈ o.op.operands → val x = val' x) (ob : List (Option Ob)) (F : A → Option ρ) : compK E o val ob F = compK E o val' ob F := by
  cases ho : o.op with
  | move x => simp only [compK, ho]; rw [h x (by simp [ho, Op.operands])]
  | assign x => simp only [compK, ho]; rw [h x (by simp [ho, Op.operands])]
  | pick c x y => simp only [compK, ho]; rw [h x (by simp [ho, Op.operands]), h y (by simp [ho, Op.operands]), h c (by simp [ho, Op.operands])]
  | load t x => simp only [compK, ho]; rw [h x (by simp [ho, Op.operands])]
  | nilCheck x => simp only [compK, ho]; rw [h x (by simp [ho, Op.operands])]
  | binOp op xt x y yt => simp only [compK, ho]; rw [h x (by simp [ho, Op.operands]), h y (by simp [ho, Op.operands])]
  | unOp op xt x => simp only [compK, ho]; rw [h x (by simp [ho, Op.operands])]
  | convert s t x => simp only [compK, ho]; rw [h x (by simp [ho, Op.operands])]
  | slice t x lo hi mx =>
    simp only [compK, ho]
    rw [h x (by simp [ho, Op.operands])]
    cases lo with
    | none => cases hi with
      | none => rfl
      | some y => simp only [h y (by simp [ho, Op.operands])]
    | some z => cases hi with
      | none => simp only [h z (by simp [ho, Op.operands])]
      | some y => simp only [h z (by simp [ho, Op.operands]), h y (by simp [ho, Op.operands])]
  | fieldAddr s x f => simp only [compK, ho]; rw [h x (by simp [ho, Op.operands])]
  | field s x f => simp only [compK, ho]; rw [h x (by simp [ho, Op.operands])]
  | indexAddr t x ix => simp only [compK, ho]; rw [h x (by simp [ho, Op.operands]), h ix (by simp [ho, Op.operands])]
  | index t x ix => simp only [compK, ho]; rw [h x (by simp [ho, Op.operands]), h ix (by simp [ho, Op.operands])]
  | extract x n => simp only [compK, ho]; rw [h x (by simp [ho, Op.operands])]
  | build t ps =>
    simp only [compK, ho]
    have : (ps.toList.map fun p => (p.1, val p.2)) = ps.toList.map fun p => (p.1, val' p.2) := by
      apply List.map_congr_left
      intro p hp
      rw [h p.2 (by simp only [ho, Op.operands]; exact List.mem_toArray.2 (List.mem_map.2 ⟨p, hp, rfl⟩))]
    rw [this]
  | call c =>
    simp only [compK, ho]
    have hx : ∀ x, x ∈ c.args.toList → val x = val' x := by
      intro x hx
      refine h x ?_
      simp only [ho, Op.operands, Call.operands]
      exact Array.mem_append.2 (.inr (Array.mem_toList_iff.1 hx))
    have hm : c.args.toList.map val = c.args.toList.map val' := List.map_congr_left hx
    rw [hm]
    split
    · split
      · rename_i x t ha _
        rw [hx x (by rw [ha]; simp)]
      · rfl
    · rfl
    · rfl
  | _ => simp only [compK, ho]
/-- What a step puts in its place. -/
def stepV (E : Env) (ops : Array Oper) (o : Oper) (st : St) : Option A :=
  match o.guard with
  | none => compK E o st.val st.ob some
  | some (j, want) => match (ops[j]?).bind (·.dst) with
    | some t => match st.tm[t]? with
      | some (.d .bool _ b) => if b = want then compK E o st.val st.ob some else some .no
      | some .no => some .no
      | _ => none
    | none => none
theorem stepK_eq (st : St) : stepK E true ops o st K1 = (stepV E ops o st).bind fun A => K1 (st.set o.dst A) := by
  have hc : ∀ st : St, (compK E o st.val st.ob fun a => K1 (st.set o.dst a)) = (compK E o st.val st.ob some).bind fun A => K1 (st.set o.dst A) := fun st => by rw [compK_bind]; rfl
  cases hg : o.guard with
  | none => simp only [stepK, stepV, guardK, hg, if_true]; exact hc st
  | some p =>
    obtain ⟨j, want⟩ := p
    cases ht : (ops[j]?).bind (·.dst) with
    | none => simp only [stepK, stepV, guardK, hg, ht]; rfl
    | some t =>
      cases hA : st.tm[t]? with
      | none => simp only [stepK, stepV, guardK, hg, ht, hA]; rfl
      | some A0 =>
        cases A0 with
        | d ty fr b =>
          cases ty with
          | bool =>
            simp only [stepK, stepV, guardK, hg, ht, hA, if_true]
            cases b
            · have hst : ({ tm := st.tm.set t (.d .bool fr false), ob := st.ob } : St) = st := by rw [list_set_self hA]
              simp only [hst]
              cases want
              · exact hc st
              · rfl
            · have hst : ({ tm := st.tm.set t (.d .bool fr true), ob := st.ob } : St) = st := by rw [list_set_self hA]
              simp only [hst]
              cases want
              · rfl
              · exact hc st
          | _ => simp only [stepK, stepV, guardK, hg, ht, hA]; rfl
        | _ => simp only [stepK, stepV, guardK, hg, ht, hA]; rfl
theorem val_set {d : Tmp} {A : A} {x : Operand} (h : x ≠ .tmp d) : (st.set (some d) A).val x = st.val x := by
  cases x with
  | tmp t =>
    have : d ≠ t := fun e => h (e ▸ rfl)
    simp [St.set, St.val, List.getD_eq_getElem?_getD, this]
  | _ => rfl
theorem stepV_frame {d : Tmp} (A : A) (hd : d ∉ o.looksAt ops) : stepV E ops o (st.set (some d) A) = stepV E ops o st := by
  have hval : ∀ x, x ∈ o.op.operands → (st.set (some d) A).val x = st.val x := by
    intro x hx
    refine val_set (fun e => hd ?_)
    subst e
    unfold Oper.looksAt
    refine List.mem_append.2 (.inl (List.mem_filterMap.2 ⟨.tmp d, Array.mem_toList_iff.2 hx, rfl⟩))
  have hob : (st.set (some d) A).ob = st.ob := rfl
  unfold stepV
  rw [compK_congr hval, hob]
  split
  · rfl
  · rename_i j want hg
    split
    · rename_i t ht
      have : d ≠ t := by
        rintro rfl
        refine hd ?_
        unfold Oper.looksAt
        refine List.mem_append.2 (.inr ?_)
        rw [hg]
        simp [ht]
      have htm : (st.set (some d) A).tm[t]? = st.tm[t]? := by simp [St.set, this]
      rw [htm]
    · rfl
theorem stepV_frame' (dst : Option Tmp) (A : A) (hd : ∀ d, dst = some d → d ∉ o.looksAt ops) : stepV E ops o (st.set dst A) = stepV E ops o st := by
  cases dst with
  | none => rfl
  | some d => exact stepV_frame A (hd d rfl)
theorem set_comm {d1 d2 : Option Tmp} (h : ∀ d, d1 = some d → d2 ≠ some d) (A1 A2 : A) : (st.set d1 A1).set d2 A2 = (st.set d2 A2).set d1 A1 := by
  cases d1 with
  | none => cases d2 <;> rfl
  | some x => cases d2 with
    | none => rfl
    | some y =>
      have : x ≠ y := fun e => h x rfl (e ▸ rfl)
      simp only [St.set]
      rw [List.set_comm _ _ this]
theorem step_comm {x y : Oper} (h : x.apart ops y = true) (st : St) : (stepK E true ops x st fun st' => stepK E true ops y st' K1) = stepK E true ops y st fun st' => stepK E true ops x st' K1 := by
  obtain ⟨h1, h2, h3⟩ := Oper.apart_spec h
  simp only [stepK_eq]
  simp only [stepV_frame' _ _ h1, stepV_frame' _ _ h3]
  cases stepV E ops x st with
  | none => cases stepV E ops y st <;> rfl
  | some A => cases stepV E ops y st with
    | none => rfl
    | some A' =>
      show K1 _ = K1 _
      rw [set_comm h2]
/-- Operation x, apart from all ahead of it, comes first. -/
theorem ops_front {x : Oper} : ∀ (p q : List Oper) (st : St), (∀ y ∈ p, y.apart ops x = true) → opsK E true ops (p ++ x :: q) st K1 = stepK E true ops x st fun st' => opsK E true ops (p ++ q) st' K1
  | [], q, st, _ => rfl
  | y :: p, q, st, h => by
    simp only [List.cons_append, opsK]
    have ih : (fun st' => opsK E true ops (p ++ x :: q) st' K1) = fun st' => stepK E true ops x st' fun st2 => opsK E true ops (p ++ q) st2 K1 := funext fun st' => ops_front p q st' (fun z hz => h z (by simp [hz]))
    rw [ih]
    exact step_comm (h y (by simp)) st
def reachB (ops : Array Oper) : Nat → Nat → Nat → Bool
  | 0, _, _ => false
  | n + 1, i, j => match ops[i]? with
    | some o => o.after.toList.any fun e => Region.binds .any e && (e.on == j || reachB ops n e.on j)
    | none => false
def dokB (ops : Array Oper) : Bool :=
  (List.range ops.size).all fun i => match ops[i]? with
    | some oi => (oi.after.toList.all fun e => !Region.binds .any e || decide (e.on < i)) && (List.range i).all fun j => match ops[j]? with
      | some oj => reachB ops ops.size i j || oj.apart ops oi
      | none => true
    | none => true
/-- What is still to come, in the text's order. -/
def rem (ops : Array Oper) (listed : Array Bool) : List Nat := (List.range ops.size).filter fun i => !listed.getD i true
theorem reach_listed {listed : Array Bool} (hc : ∀ i o, ops[i]? = some o → listed.getD i false = true → ∀ e ∈ o.after.toList, Region.binds .any e = true → listed.getD e.on false = true) : ∀ (n i j : Nat), reachB ops n i j = true → (∀ o, ops[i]? = some o → ∀ e ∈ o.after.toList, Region.binds .any e = true → listed.getD e.on false = true) → listed.getD j false = true
  | 0, i, j, h, _ => by simp [reachB] at h
  | n + 1, i, j, h, hi => by
    simp only [reachB] at h
    split at h
    · rename_i o ho
      rw [List.any_eq_true] at h
      obtain ⟨e, he, h⟩ := h
      rw [Bool.and_eq_true, Bool.or_eq_true] at h
      have hl := hi o ho e he h.1
      rcases h.2 with h2 | h2
      · rw [beq_iff_eq] at h2; rw [← h2]; exact hl
      · exact reach_listed hc n e.on j h2 (fun o' ho' => hc _ o' ho' hl)
    · cases h
theorem getD_setB (xs : Array Bool) (d i : Nat) (u : Bool) : (xs.setIfInBounds d true).getD i u = if d = i ∧ d < xs.size then true else xs.getD i u := by
  simp only [Array.getD_eq_getD_getElem?, Array.getElem?_setIfInBounds]
  by_cases h : d = i
  · subst h
    by_cases h2 : d < xs.size
    · simp [h2]
    · simp [h2]
  · simp [h]
theorem rem_split {listed : Array Bool} (hs : listed.size = ops.size) {i : Nat} (hi : i ∈ rem ops listed) : ∃ p q, rem ops listed = p ++ i :: q ∧ rem ops (listed.setIfInBounds i true) = p ++ q ∧ (∀ y ∈ p, y < i ∧ listed.getD y true = false) := by
  obtain ⟨hlt, hl⟩ := List.mem_filter.1 hi
  have hlt : i < ops.size := by simpa using hlt
  have hsplit : List.range ops.size = List.range i ++ i :: (List.range' (i + 1) (ops.size - (i + 1))) := by
    rw [List.range_eq_range', List.range_eq_range']
    have e1 : i :: List.range' (i + 1) (ops.size - (i + 1)) = List.range' i (ops.size - i) := by
      rw [show ops.size - i = (ops.size - (i + 1)) + 1 by omega, List.range'_succ]
    rw [e1]
    have := List.range'_append (s := 0) (m := i) (n := ops.size - i) (step := 1)
    simp only [Nat.one_mul, Nat.zero_add] at this
    rw [this]
    congr 1; omega
  refine ⟨(List.range i).filter (fun j => !listed.getD j true), (List.range' (i + 1) (ops.size - (i + 1))).filter (fun j => !listed.getD j true), ?_, ?_, ?_⟩
  · unfold rem
    rw [hsplit, List.filter_append, List.filter_cons, if_pos hl]
  · unfold rem
    rw [hsplit, List.filter_append, List.filter_cons]
    have hi' : (!(listed.setIfInBounds i true).getD i true) = false := by rw [getD_setB]; simp [hs, hlt]
    rw [if_neg (by rw [hi']; simp)]
    have hne : ∀ j, j ≠ i → (!(listed.setIfInBounds i true).getD j true) = !listed.getD j true := by
      intro j hj; rw [getD_setB, if_neg (fun h => hj h.1.symm)]
    congr 1
    · apply List.filter_congr
      intro j hj
      exact hne j (by have := List.mem_range.1 hj; omega)
    · apply List.filter_congr
      intro j hj
      exact hne j (by have := List.mem_range'.1 hj; omega)
  · intro y hy
    obtain ⟨h1, h2⟩ := List.mem_filter.1 hy
    exact ⟨by simpa using h1, by simpa using h2⟩
theorem min_head : ∀ {l : List Nat}, l ≠ [] → l.Pairwise (· < ·) → ∃ i ∈ l, ∀ j ∈ l, i ≤ j
  | [], h, _ => absurd rfl h
  | x :: xs, _, hp => ⟨x, by simp, fun j hj => by
    rcases List.mem_cons.1 hj with rfl | hj
    · omega
    · exact Nat.le_of_lt ((List.pairwise_cons.1 hp).1 j hj)⟩
theorem drawn_sound (he : EnvOk P E) (hd : dokB ops = true) : ∀ (n : Nat) (listed : Array Bool) {β : Nat → Value} {st : St} {a : Act} {w : World}, listed.size = ops.size → (rem ops listed).length = n →
    (∀ i o, ops[i]? = some o → listed.getD i false = true → ∀ e ∈ o.after.toList, Region.binds .any e = true → listed.getD e.on false = true) →
    Sim B okA w0 β st a w → opsK E true ops ((rem ops listed).filterMap (fun i => ops[i]?)) st K1 = some r →
    (∀ β' st' a' w', Sim B okA w0 β' st' a' w' → K1 st' = some r → Q .normal a' w') → wpAny P .any ops Q n listed a w
  | n, listed, β, st, a, w, hsz, hn, hc, hs, h, hq => by
    have hdo : ∀ i o, ops[i]? = some o → (∀ e ∈ o.after.toList, Region.binds .any e = true → e.on < i) ∧ ∀ j oj, j < i → ops[j]? = some oj → reachB ops ops.size i j = true ∨ oj.apart ops o = true := by
      intro i o ho
      have hlt := (Array.getElem?_eq_some_iff.1 ho).1
      have := (List.all_eq_true.1 hd) i (by simpa using hlt)
      simp only [ho, Bool.and_eq_true] at this
      refine ⟨fun e he hb => ?_, fun j oj hj hoj => ?_⟩
      · have h1 := (List.all_eq_true.1 this.1) e he
        simpa [hb] using h1
      · have h1 := (List.all_eq_true.1 this.2) j (by simpa using hj)
        simpa [hoj] using h1
    have hempty : Region.ready .any ops listed = [] → rem ops listed = [] := by
      intro hr
      apply Classical.byContradiction
      intro hne
      obtain ⟨i, hi, hmin⟩ : ∃ i ∈ rem ops listed, ∀ j ∈ rem ops listed, i ≤ j := by
        exact min_head hne (List.Pairwise.filter _ List.pairwise_lt_range)
      obtain ⟨hlt, hl⟩ := List.mem_filter.1 hi
      have hlt : i < ops.size := by simpa using hlt
      have : i ∈ Region.ready .any ops listed := by
        refine List.mem_filter.2 ⟨by simpa using hlt, ?_⟩
        rw [Bool.and_eq_true]
        refine ⟨hl, ?_⟩
        rw [Array.getElem?_eq_getElem hlt]
        simp only [Option.map_some, Option.getD_some]
        rw [← Array.all_toList, List.all_eq_true]
        intro e he
        cases hb : Region.binds .any e
        · rfl
        · have hon := (hdo i _ (Array.getElem?_eq_getElem hlt)).1 e he hb
          have hnr : e.on ∉ rem ops listed := fun hm => by have := hmin _ hm; omega
          have : listed.getD e.on true = true := by
            cases hq' : listed.getD e.on true
            · exact absurd (List.mem_filter.2 ⟨by simp; omega, by simp [hq']⟩) hnr
            · rfl
          have hlt2 : e.on < listed.size := by omega
          simp only [Array.getD_eq_getD_getElem?, Array.getElem?_eq_getElem hlt2, Option.getD_some] at this ⊢
          simp [this]
      rw [hr] at this
      cases this
    cases n with
    | zero =>
      have h0 : rem ops listed = [] := List.eq_nil_of_length_eq_zero hn
      refine ⟨?_, ?_⟩
      · apply List.eq_nil_iff_forall_not_mem.2
        intro i hi
        obtain ⟨h1, h2⟩ := List.mem_filter.1 hi
        rw [Bool.and_eq_true] at h2
        have : i ∈ rem ops listed := List.mem_filter.2 ⟨h1, h2.1⟩
        rw [h0] at this
        cases this
      · rw [h0] at h
        exact hq _ _ _ _ hs h
    | succ n =>
      refine ⟨fun hr => ?_, fun i hi => ?_⟩
      · have := hempty hr
        rw [this] at hn
        simp at hn
      · obtain ⟨h1, h2⟩ := List.mem_filter.1 hi
        rw [Bool.and_eq_true] at h2
        have him : i ∈ rem ops listed := List.mem_filter.2 ⟨h1, h2.1⟩
        have hlt : i < ops.size := by simpa using h1
        have hoi := Array.getElem?_eq_getElem hlt
        obtain ⟨p, q, e1, e2, e3⟩ := rem_split hsz him
        have hpre : ∀ e ∈ (ops[i]).after.toList, Region.binds .any e = true → listed.getD e.on false = true := by
          have h3 := h2.2
          rw [hoi] at h3
          simp only [Option.map_some, Option.getD_some] at h3
          rw [← Array.all_toList, List.all_eq_true] at h3
          intro e he hb
          have := h3 e he
          simpa [hb] using this
        have hap : ∀ y ∈ p.filterMap (fun j => ops[j]?), y.apart ops ops[i] = true := by
          intro y hy
          obtain ⟨j, hj, hoj⟩ := List.mem_filterMap.1 hy
          obtain ⟨hji, hjl⟩ := e3 j hj
          rcases (hdo i _ hoi).2 j y hji hoj with hr | hr
          · have := reach_listed hc ops.size i j hr (fun o ho => by rw [hoi] at ho; injection ho with ho; subst ho; exact hpre)
            have hjs : j < listed.size := by omega
            simp only [Array.getD_eq_getD_getElem?, Array.getElem?_eq_getElem hjs, Option.getD_some] at this hjl
            rw [this] at hjl
            cases hjl
          · exact hr
        rw [e1, List.filterMap_append, List.filterMap_cons, hoi] at h
        simp only at h
        rw [ops_front _ _ _ hap] at h
        refine step_sound he hs hoi h (fun β' st' a' w' hs' h' => ?_)
        refine drawn_sound he hd n (listed.setIfInBounds i true) (by simpa using hsz) ?_ ?_ hs' ?_ hq
        · rw [e2]
          rw [e1] at hn
          simp at hn ⊢
          omega
        · intro k o ho hk e he' hb
          rw [getD_setB] at hk ⊢
          by_cases hki : i = k ∧ i < listed.size
          · obtain ⟨rfl, _⟩ := hki
            rw [hoi] at ho
            injection ho with ho
            subst ho
            have := hpre e he' hb
            split
            · rfl
            · exact this
          · rw [if_neg hki] at hk
            have := hc k o ho hk e he' hb
            split
            · rfl
            · exact this
        · rw [e2, List.filterMap_append]
          exact h'
theorem region_draw_sound (he : EnvOk P E) (hm : P.follows .mixedOrders = true) (hd : dokB ops = true) {id : Nat} (hs : Sim B okA w0 β st a w) (h : opsK E true ops ops.toList st K1 = some r)
    (hq : ∀ β' st' a' w', Sim B okA w0 β' st' a' w' → K1 st' = some r → Q .normal a' w') : (Code.region id ops true).wp P Q a w := by
  refine wp_region_any hm ?_
  have hrem : rem ops (Array.replicate ops.size false) = List.range ops.size := by
    unfold rem
    apply List.filter_eq_self.2
    intro i hi
    have : i < ops.size := by simpa using hi
    simp [Array.getD_eq_getD_getElem?, this]
  have hfm : (List.range ops.size).filterMap (fun i => ops[i]?) = ops.toList := by
    have : ∀ (l : List Oper), (List.range l.length).filterMap (fun i => l[i]?) = l := by
      intro l
      induction l with
      | nil => rfl
      | cons x l ih =>
        rw [List.length_cons, List.range_succ_eq_map, List.filterMap_cons]
        simp only [List.getElem?_cons_zero, List.filterMap_map]
        simpa [Function.comp_def] using ih
    have h2 := this ops.toList
    simp only [Array.length_toList, Array.getElem?_toList] at h2
    exact h2
  refine drawn_sound he hd ops.size _ (by simp) (by rw [hrem]; simp) ?_ (hs.grow (w1 := { w with drawn := w.drawn + 1 }) ⟨(Below.refl _ _).drew⟩) (by rw [hrem, hfm]; exact h) hq
  intro i o ho hl
  have : i < ops.size := (Array.getElem?_eq_some_iff.1 ho).1
  simp [Array.getD_eq_getD_getElem?, this] at hl
end
end Go.Fil
