/-
  For regions whose order is left open: the edges' closure, the run in the order of the text as a row of states.
-/
import Derived.Test.YticmjjeicpejcaaAiRegion
set_option linter.unusedVariables false
set_option linter.unusedSimpArgs false
namespace Go.Ai

abbrev AX := Option Nat × Option (Nat × Bool) × AOp

/-! ### The edges' closure -/
def ownPreds (acc : List (List Nat)) (o : Oper) : List Nat :=
  (o.after.toList.flatMap fun e => bif Region.binds .any e then e.on :: acc.getD e.on [] else []).eraseDups

theorem predsOf_app : ∀ (os : List Oper) (acc : List (List Nat)), ∃ tail, predsOf os acc = acc ++ tail ∧ tail.length = os.length ∧
    ∀ (t : Nat) (o : Oper), os[t]? = some o → (acc ++ tail).getD (acc.length + t) [] = ownPreds ((acc ++ tail).take (acc.length + t)) o
  | [], acc => ⟨[], by simp [predsOf], rfl, fun t o h => by simp at h⟩
  | o :: os, acc => by
    obtain ⟨tail, h1, h2, h3⟩ := predsOf_app os (acc ++ [ownPreds acc o])
    refine ⟨ownPreds acc o :: tail, ?_, by simp [h2], fun t o' ho => ?_⟩
    · simp only [predsOf]
      have : (o.after.toList.flatMap fun e => bif Region.binds .any e then e.on :: acc.getD e.on [] else []).eraseDups = ownPreds acc o := rfl
      rw [this, h1]
      simp
    · cases t with
      | zero =>
        simp only [List.getElem?_cons_zero, Option.some.injEq] at ho
        subst ho
        simp [List.getD]
      | succ t =>
        simp only [List.getElem?_cons_succ] at ho
        have := h3 t o' ho
        simp only [List.length_append, List.length_singleton, List.append_assoc, List.singleton_append] at this
        rw [show acc.length + (t + 1) = acc.length + 1 + t by omega]
        exact this

theorem mem_ownPreds {acc : List (List Nat)} {o : Oper} {i : Nat} : i ∈ ownPreds acc o ↔ ∃ e ∈ o.after, Region.binds .any e = true ∧ (i = e.on ∨ i ∈ acc.getD e.on []) := by
  unfold ownPreds
  rw [List.mem_eraseDups, List.mem_flatMap]
  constructor
  · rintro ⟨e, he, hi⟩
    cases hb : Region.binds .any e with
    | false => rw [hb] at hi; cases hi
    | true =>
      rw [hb] at hi
      exact ⟨e, by simpa using he, hb, by simpa using hi⟩
  · rintro ⟨e, he, hb, hi⟩
    exact ⟨e, by simpa using he, by rw [hb]; simpa using hi⟩

/-- What the closure says: an edge's end is in it; and what is in it is an edge's end, or in an edge's end's. -/
theorem preds_spec {ops : Array Oper} {j : Nat} {o : Oper} (hj : ops[j]? = some o) :
    (∀ e ∈ o.after, Region.binds .any e = true → e.on ∈ (predsOf ops.toList []).getD j []) ∧
    (∀ i ∈ (predsOf ops.toList []).getD j [], ∃ e ∈ o.after, Region.binds .any e = true ∧ (i = e.on ∨ i ∈ (predsOf ops.toList []).getD e.on [])) := by
  obtain ⟨tail, h1, h2, h3⟩ := predsOf_app ops.toList []
  have hj' : ops.toList[j]? = some o := by rw [Array.getElem?_toList]; exact hj
  have h4 := h3 j o hj'
  simp only [List.nil_append, List.length_nil, Nat.zero_add] at h1 h4
  rw [h1]
  refine ⟨fun e he hb => ?_, fun i hi => ?_⟩
  · rw [h4, mem_ownPreds]
    exact ⟨e, he, hb, .inl rfl⟩
  · rw [h4, mem_ownPreds] at hi
    obtain ⟨e, he, hb, hi⟩ := hi
    refine ⟨e, he, hb, ?_⟩
    rcases hi with hi | hi
    · exact .inl hi
    · right
      simp only [List.getD_eq_getElem?_getD, List.getElem?_take] at hi ⊢
      split at hi
      · exact hi
      · simp at hi

/-- No edge orders them. -/
structure Ordered (l : List AX) (preds : List (List Nat)) (pairs : List (Nat × Nat)) : Prop where
  lt : ∀ j i, j < l.length → i ∈ preds.getD j [] → i < j
  apart : ∀ i j x y, i < j → l[i]? = some x → l[j]? = some y → i ∉ preds.getD j [] → apartS x y = true ∧ (clsOk x.2.2.cls y.2.2.cls = true ∨ (i, j) ∈ pairs)

theorem orderS_spec {l : List AX} {preds : List (List Nat)} {pairs : List (Nat × Nat)} (h : orderS l preds pairs = true) : Ordered l preds pairs := by
  unfold orderS at h
  rw [List.all_eq_true] at h
  constructor
  · intro j i hj hi
    have := h j (List.mem_range.2 hj)
    simp only [Bool.and_eq_true] at this
    have h1 := List.all_eq_true.1 this.1 i hi
    exact Nat.lt_of_succ_le (Nat.le_of_ble_eq_true h1)
  · intro i j x y hij hx hy hn
    have hj : j < l.length := by
      rcases Nat.lt_or_ge j l.length with g | g
      · exact g
      · rw [List.getElem?_eq_none g] at hy; cases hy
    have := h j (List.mem_range.2 hj)
    simp only [Bool.and_eq_true] at this
    have h1 := List.all_eq_true.1 this.2 i (List.mem_range.2 hij)
    rw [hx, hy] at h1
    simp only [Bool.or_eq_true, Bool.and_eq_true] at h1
    rcases h1 with h1 | ⟨h1, h2⟩
    · exact absurd (by simpa using h1) hn
    · refine ⟨h1, ?_⟩
      rcases h2 with h2 | h2
      · exact .inl h2
      · obtain ⟨p, hp, hb⟩ := List.any_eq_true.1 h2
        simp only [Bool.and_eq_true] at hb
        obtain ⟨a, b⟩ := p
        have e1 := Nat.eq_of_beq_eq_true hb.1
        have e2 := Nat.eq_of_beq_eq_true hb.2
        simp only at e1 e2
        subst e1 e2
        exact .inr hp

theorem orderOk_spec {l : List AX} {preds : List (List Nat)} (h : orderOk l preds = true) : Ordered l preds [] := by
  apply orderS_spec
  unfold orderOk at h
  unfold orderS
  rw [List.all_eq_true] at h ⊢
  intro j hj
  have := h j hj
  simp only [Bool.and_eq_true] at this ⊢
  refine ⟨this.1, ?_⟩
  rw [List.all_eq_true]
  intro i hi
  have h1 := List.all_eq_true.1 this.2 i hi
  simp only [Bool.or_eq_true] at h1 ⊢
  rcases h1 with h1 | h1
  · exact .inl h1
  · right
    revert h1
    cases l[i]? with
    | none => intro h1; cases h1
    | some x =>
      cases l[j]? with
      | none => intro h1; cases h1
      | some y =>
        intro h1
        simp only [apartA, Bool.and_eq_true] at h1
        simp [h1.1, h1.2]

theorem apartS_spec {x y : AX} (h : apartS x y = true) : (∀ d, x.1 = some d → d ∉ rd y ∧ y.1 ≠ some d) ∧ (∀ d, y.1 = some d → d ∉ rd x) := by
  unfold apartS at h
  simp only [Bool.and_eq_true] at h
  obtain ⟨h1, h2⟩ := h
  refine ⟨fun d hd => ?_, fun d hd => ?_⟩
  · rw [hd] at h1
    simp only [Bool.and_eq_true, Bool.not_eq_true', beq_eq_false_iff_ne, ne_eq] at h1
    refine ⟨?_, h1.2⟩
    intro hm
    have : (rd y).contains d = true := by simpa using hm
    rw [this] at h1
    exact absurd h1.1 (by simp)
  · rw [hd] at h2
    simp only [Bool.not_eq_true'] at h2
    intro hm
    have : (rd x).contains d = true := by simpa using hm
    rw [this] at h2
    cases h2

/-! ### The run in the order of the text -/
def OneStep (call : CallFn) (x : AX) (s s' : AS) (v : AV) : Prop :=
  ((guarded s.sl x.2.1 = some true ∧ evalOp call s.sl s.h x.2.2 = some (v, s'.h)) ∨ (guarded s.sl x.2.1 = some false ∧ v = .undef ∧ s'.h = s.h)) ∧ s'.sl = putSlot s.sl x.1 v

theorem trace {call : CallFn} : ∀ (l : List AX) (st st' : AS), execOps call l st = some st' →
    ∃ (tr : Nat → AS) (vv : Nat → AV), tr 0 = st ∧ tr l.length = st' ∧ ∀ i x, l[i]? = some x → OneStep call x (tr i) (tr (i + 1)) (vv i)
  | [], st, st', h => by
    cases h
    exact ⟨fun _ => st, fun _ => .undef, rfl, rfl, fun i x h => by simp at h⟩
  | (d, g, o) :: l, st, st', h => by
    simp only [execOps] at h
    obtain ⟨t, ht, h⟩ := bind_some' h
    have fin : ∀ (s1 : AS) (v : AV), OneStep call (d, g, o) st s1 v → execOps call l s1 = some st' → ∃ (tr : Nat → AS) (vv : Nat → AV), tr 0 = st ∧ tr ((d, g, o) :: l).length = st' ∧ ∀ i x, ((d, g, o) :: l)[i]? = some x → OneStep call x (tr i) (tr (i + 1)) (vv i) := by
      intro s1 v hs h1
      obtain ⟨tr, vv, t1, t2, t3⟩ := trace l s1 st' h1
      refine ⟨fun i => match i with | 0 => st | i + 1 => tr i, fun i => match i with | 0 => v | i + 1 => vv i, rfl, t2, fun i x hx => ?_⟩
      cases i with
      | zero =>
        simp only [List.getElem?_cons_zero, Option.some.injEq] at hx
        subst hx
        simp only [t1]
        exact hs
      | succ i =>
        simp only [List.getElem?_cons_succ] at hx
        exact t3 i x hx
    rcases bif_cases h with ⟨rfl, h⟩ | ⟨rfl, h⟩
    · obtain ⟨r, h1, h⟩ := bind_some' h
      exact fin ⟨putSlot st.sl d r.1, r.2⟩ r.1 ⟨.inl ⟨ht, h1⟩, rfl⟩ h
    · exact fin ⟨putSlot st.sl d .undef, st.h⟩ .undef ⟨.inr ⟨ht, rfl, rfl⟩, rfl⟩ h

/-- The last value that a slot was given by those of a set, ahead of a place. -/
def lastVal (sl : List AV) (l : List AX) (vv : Nat → AV) (D : Nat → Bool) (x : Nat) : Nat → AV
  | 0 => sl.getD x .undef
  | k + 1 => if x < sl.length ∧ D k = true ∧ (l[k]?).bind (·.1) = some x then vv k else lastVal sl l vv D x k

theorem lastVal_congr {sl : List AV} {l : List AX} {vv : Nat → AV} {D D' : Nat → Bool} {x : Nat} : ∀ (k : Nat), (∀ i, i < k → (l[i]?).bind (·.1) = some x → D i = D' i) → lastVal sl l vv D x k = lastVal sl l vv D' x k
  | 0, _ => rfl
  | k + 1, h => by
    simp only [lastVal]
    by_cases hx : (l[k]?).bind (·.1) = some x
    · rw [h k (by omega) hx, lastVal_congr k (fun i hi => h i (by omega))]
    · simp only [hx, and_false, if_false]
      exact lastVal_congr k (fun i hi => h i (by omega))

/-- Behind a place none of the set gives it: it is as at the place. -/
theorem lastVal_stop {sl : List AV} {l : List AX} {vv : Nat → AV} {D : Nat → Bool} {x : Nat} : ∀ (n k : Nat), (∀ i, k ≤ i → i < k + n → (l[i]?).bind (·.1) = some x → D i = false) → lastVal sl l vv D x (k + n) = lastVal sl l vv D x k
  | 0, k, _ => rfl
  | n + 1, k, h => by
    rw [show k + (n + 1) = (k + n) + 1 by omega]
    simp only [lastVal]
    rw [if_neg]
    · exact lastVal_stop n k (fun i h1 h2 => h i h1 (by omega))
    · rintro ⟨_, h2, h3⟩
      rw [h (k + n) (by omega) (by omega) h3] at h2
      cases h2

theorem trace_val {call : CallFn} {l : List AX} {tr : Nat → AS} {vv : Nat → AV} (ht : ∀ i x, l[i]? = some x → OneStep call x (tr i) (tr (i + 1)) (vv i)) : ∀ k, k ≤ l.length →
    (tr k).sl.length = (tr 0).sl.length ∧ ∀ x, (tr k).sl.getD x .undef = lastVal (tr 0).sl l vv (fun _ => true) x k
  | 0, _ => ⟨rfl, fun _ => rfl⟩
  | k + 1, hk => by
    obtain ⟨h1, h2⟩ := trace_val ht k (by omega)
    have hlt : k < l.length := by omega
    have hx := ht k l[k] (List.getElem?_eq_getElem hlt)
    have hsl := hx.2
    refine ⟨by rw [hsl]; cases l[k].1 <;> simp [putSlot, h1], fun x => ?_⟩
    simp only [lastVal, List.getElem?_eq_getElem hlt, Option.bind_some, true_and]
    rw [hsl]
    cases hd : l[k].1 with
    | none => simp only [putSlot, reduceCtorEq, and_false, if_false]; exact h2 x
    | some d =>
      by_cases hdx : d = x
      · subst hdx
        by_cases hl : d < (tr 0).sl.length
        · simp only [hl, and_self, if_true]
          have hl' : d < (tr k).sl.length := by omega
          simp [putSlot, List.getD, hl']
        · simp only [hl, false_and, if_false]
          rw [← h2 d]
          have hl' : ¬ d < (tr k).sl.length := by omega
          simp [putSlot, List.getD, hl']
      · have : ¬ (some d = some x) := fun e => hdx (Option.some.inj e)
        simp only [this, and_false, if_false]
        rw [← h2 x]
        simp [putSlot, List.getD, List.getElem?_set, hdx]

/-! ### An operation looks at nothing but what it reads -/
theorem Arg.val_congr {sl sl' : List AV} {x : Arg} (h : ∀ i ∈ x.reads, sl.getD i .undef = sl'.getD i .undef) : x.val sl = x.val sl' := by
  cases x with
  | s i => exact h i (by simp [Arg.reads])
  | c v => rfl

theorem args_congr {sl sl' : List AV} {xs : List Arg} (h : ∀ i ∈ xs.flatMap Arg.reads, sl.getD i .undef = sl'.getD i .undef) : xs.map (·.val sl) = xs.map (·.val sl') := by
  apply List.map_congr_left
  intro x hx
  exact Arg.val_congr fun i hi => h i (List.mem_flatMap.2 ⟨x, hx, hi⟩)

theorem parts_congr {sl sl' : List AV} {ps : List (Nat × Nat × Arg)} (h : ∀ i ∈ ps.flatMap fun p => p.2.2.reads, sl.getD i .undef = sl'.getD i .undef) :
    ps.map (fun p => (p.1, p.2.1, p.2.2.val sl)) = ps.map (fun p => (p.1, p.2.1, p.2.2.val sl')) := by
  apply List.map_congr_left
  intro p hp
  rw [Arg.val_congr fun i hi => h i (List.mem_flatMap.2 ⟨p, hp, hi⟩)]

theorem opt_congr {sl sl' : List AV} {x : Option Arg} (h : ∀ i ∈ oreads x, sl.getD i .undef = sl'.getD i .undef) : x.map (·.val sl) = x.map (·.val sl') := by
  cases x with
  | none => rfl
  | some x => simp only [Option.map_some]; rw [Arg.val_congr h]

theorem evalOp_congr {call : CallFn} {sl sl' : List AV} {h : AH} {o : AOp} (hr : ∀ i ∈ o.reads, sl.getD i .undef = sl'.getD i .undef) : evalOp call sl h o = evalOp call sl' h o := by
  cases o <;> simp only [AOp.reads, List.mem_append, or_imp, forall_and] at hr <;> simp only [evalOp, AOp.cls, pureV, memV] <;> first
    | rw [Arg.val_congr hr]
    | rw [Arg.val_congr hr.1, Arg.val_congr hr.2]
    | rw [Arg.val_congr hr.1.1, Arg.val_congr hr.1.2, Arg.val_congr hr.2]
    | rw [parts_congr hr]
    | rw [args_congr hr]
    | rw [Arg.val_congr hr.1.1.1, opt_congr hr.1.1.2, opt_congr hr.1.2, opt_congr hr.2]
    | rw [Arg.val_congr hr.1.1, opt_congr hr.1.2, opt_congr hr.2]
    | rw [Arg.val_congr hr.1, args_congr hr.2]
    | rfl
end Go.Ai
