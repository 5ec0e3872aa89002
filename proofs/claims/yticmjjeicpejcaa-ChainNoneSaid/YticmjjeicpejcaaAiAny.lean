/-
  Regions whose order is left open.
-/
import Derived.Test.YticmjjeicpejcaaAiAny1
set_option linter.unusedVariables false
set_option linter.unusedSimpArgs false
namespace Go.Ai
section
variable {ρ : Rho} {I : Nat → Prop} {P : Program} {h h' : AH} {w : World} {sl : List AV} {a : Act} {hp : Hp}

theorem notS_ne {c : Cls} (h : notS c = true) : c ≠ .S := by
  intro e
  subst e
  cases h

theorem comp_notS {hint : Hints} {o : Oper} {ao : AOp} (hc : compOp P hint o = some ao) (hic : ao.isCall = true) : ao.cls ≠ .S := by
  obtain ⟨c, hop⟩ := comp_isCall hc hic
  simp only [compOp, hop] at hc
  cases hcal : c.callee with
  | invoke r n => rw [hcal] at hc; cases hc
  | builtin bi =>
    rw [hcal] at hc
    simp only at hc
    exfalso
    unfold compBuiltin at hc
    split at hc
    · obtain ⟨_, _, _, _, _, _, _, rfl⟩ := compLen_spec hc; cases hic
    · obtain ⟨_, _, _, _, _, _, _, _, _, _, _, _, _, _, _, _, _, _, _, _, _, rfl⟩ := compAppend_spec hc; cases hic
    · obtain ⟨_, _, _, _, _, _, _, _, _, _, _, _, _, _, _, _, rfl⟩ := compCopy_spec hc; cases hic
    · obtain ⟨_, _, _, _, _, _, _, _, _, _, _, _, rfl⟩ := compClear_spec hc; cases hic
    · obtain ⟨_, _, _, _, _, _, _, _, _, _, _, _, _, _, rfl⟩ := compDelete_spec hc; cases hic
    · obtain ⟨_, hc⟩ := bif_some hc; obtain ⟨ars, h1, rfl⟩ := map_some' hc; cases hic
    · obtain ⟨_, hc⟩ := bif_some hc; obtain ⟨ars, h1, rfl⟩ := map_some' hc; cases hic
    · cases hc
  | value f =>
    rw [hcal] at hc
    cases f with
    | func g =>
      simp only at hc
      cases hf : P.funcs[g]? with
      | none => rw [hf] at hc; cases hc
      | some fn =>
        rw [hf] at hc
        obtain ⟨h1, hc⟩ := bif_some hc
        obtain ⟨as, has, rfl⟩ := map_some' hc
        simp only [Bool.and_eq_true] at h1
        exact notS_ne h1.2
    | tmp t =>
      obtain ⟨h1, hc⟩ := bif_some hc
      obtain ⟨ar, har, hc⟩ := bind_some' hc
      obtain ⟨as, has, rfl⟩ := map_some' hc
      exact notS_ne h1
    | const v =>
      obtain ⟨h1, hc⟩ := bif_some hc
      obtain ⟨ar, har, hc⟩ := bind_some' hc
      obtain ⟨as, has, rfl⟩ := map_some' hc
      exact notS_ne h1
    | global g =>
      obtain ⟨h1, hc⟩ := bif_some hc
      obtain ⟨ar, har, hc⟩ := bind_some' hc
      obtain ⟨as, has, rfl⟩ := map_some' hc
      exact notS_ne h1

theorem compOpers_get {hint : Hints} {ops : Array Oper} : ∀ (rest : List Oper) (l : List AX), compOpers P hint ops rest = some l →
    l.length = rest.length ∧ ∀ (i : Nat) (x : AX), l[i]? = some x → ∃ o, rest[i]? = some o ∧ compOper P hint ops o = some x
  | [], l, hc => by cases hc; exact ⟨rfl, fun i x h => by simp at h⟩
  | o :: rest, l, hc => by
    simp only [compOpers] at hc
    obtain ⟨x, hx, hc⟩ := bind_some' hc
    obtain ⟨l', hl', hc⟩ := bind_some' hc
    cases hc
    obtain ⟨h1, h2⟩ := compOpers_get rest l' hl'
    refine ⟨by simp [h1], fun i y hy => ?_⟩
    cases i with
    | zero => simp only [List.getElem?_cons_zero, Option.some.injEq] at hy; subst hy; exact ⟨o, rfl, hx⟩
    | succ i => simp only [List.getElem?_cons_succ] at hy; exact h2 i y hy

/-- The slots behind what an operation reads, and no other. -/
def only (sl : List AV) (rs : List Nat) : List AV := (List.range sl.length).map fun y => if y ∈ rs then sl.getD y .undef else .undef

theorem only_get {sl : List AV} {rs : List Nat} (y : Nat) : (only sl rs).getD y .undef = if y ∈ rs then sl.getD y .undef else .undef := by
  unfold only
  by_cases hy : y < sl.length
  · simp [List.getD, hy]
  · simp [List.getD, hy]

theorem guarded_congr {sl sl' : List AV} {g : Option (Nat × Bool)} (h : ∀ d b, g = some (d, b) → sl.getD d .undef = sl'.getD d .undef) : guarded sl g = guarded sl' g := by
  cases g with
  | none => rfl
  | some p =>
    obtain ⟨d, b⟩ := p
    simp only [guarded]
    rw [h d b rfl]

theorem count_set : ∀ (l : List Bool) (i : Nat), l[i]? = some false → (l.set i true).count false + 1 = l.count false
  | [], i, h => by simp at h
  | b :: l, 0, h => by simp at h; subst h; simp
  | b :: l, i + 1, h => by
    simp only [List.getElem?_cons_succ] at h
    have := count_set l i h
    simp only [List.set_cons_succ, List.count_cons]
    omega


/-! ### Footprints -/
def inFoot (rd : Option (List Nat)) (id : Nat) : Prop := match rd with
  | some L => id ∈ L
  | none => True

def footAt (tr : Nat → AS) (l : List AX) (i : Nat) : Foot := match l[i]? with
  | some x => (match guarded (tr i).sl x.2.1 with
    | some true => ⟨(footOf (tr i).sl x.2.2).1, (footOf (tr i).sl x.2.2).2, (tr i).h.next, (tr (i + 1)).h.next⟩
    | _ => ⟨some [], some [], (tr i).h.next, (tr (i + 1)).h.next⟩)
  | none => ⟨some [], some [], 0, 0⟩

def footF (tr : Nat → AS) (l : List AX) (i id : Nat) : Prop := inFoot (footAt tr l i).rd id

theorem footAt_on {tr : Nat → AS} {l : List AX} {i : Nat} {x : AX} (hx : l[i]? = some x) (hg : guarded (tr i).sl x.2.1 = some true) : footAt tr l i = ⟨(footOf (tr i).sl x.2.2).1, (footOf (tr i).sl x.2.2).2, (tr i).h.next, (tr (i + 1)).h.next⟩ := by
  simp only [footAt, hx, hg]
theorem footAt_off {tr : Nat → AS} {l : List AX} {i : Nat} {x : AX} (hx : l[i]? = some x) (hg : guarded (tr i).sl x.2.1 = some false) : footAt tr l i = ⟨some [], some [], (tr i).h.next, (tr (i + 1)).h.next⟩ := by
  simp only [footAt, hx, hg]

theorem only_all {h : AH} {n : Nat} {F : Nat → Prop} (hF : ∀ id, F id) : h.only F n = h := by
  unfold AH.only
  cases h
  simp only [AH.mk.injEq, and_self, and_true]
  funext id
  simp [hF id]

theorem evalOp_part {call : CallFn} {o : AOp} {v : AV} (hv : evalOp call sl h o = some (v, h')) {F : Nat → Prop} (hF : ∀ id, F id ↔ inFoot (footOf sl o).1 id) :
    evalOp call sl (h.only F h.next) o = some (v, h'.only F h.next) ∧ ∀ id, id < h.next → h'.heap id ≠ h.heap id → F id := by
  cases hr : (footOf sl o).1 with
  | none =>
    have : ∀ id, F id := fun id => (hF id).2 (by rw [hr]; trivial)
    rw [only_all this, only_all this]
    exact ⟨hv, fun id _ _ => this id⟩
  | some L =>
    have : F = fun id => id ∈ L := by
      funext id
      have := hF id
      rw [hr] at this
      exact propext this
    rw [this]
    exact evalOp_local hv hr

theorem traceF {call : CallFn} : ∀ (l : List AX) (st st' : AS) (fs : List Foot), execOpsF call l st = some (st', fs) →
    ∃ (tr : Nat → AS) (vv : Nat → AV), tr 0 = st ∧ tr l.length = st' ∧ (∀ (i : Nat) (x : AX), l[i]? = some x → OneStep call x (tr i) (tr (i + 1)) (vv i)) ∧ ∀ (i : Nat), i < l.length → fs[i]? = some (footAt tr l i)
  | [], st, st', fs, h => by
    cases h
    exact ⟨fun _ => st, fun _ => .undef, rfl, rfl, fun i x h => by simp at h, fun i h => by simp at h⟩
  | (d, g, o) :: l, st, st', fs, h => by
    simp only [execOpsF] at h
    obtain ⟨t, ht, h⟩ := bind_some' h
    have fin : ∀ (s1 : AS) (v : AV) (f : Foot) (fs1 : List Foot), OneStep call (d, g, o) st s1 v → execOpsF call l s1 = some (st', fs1) → fs = f :: fs1 →
        (f = (match guarded st.sl g with | some true => (⟨(footOf st.sl o).1, (footOf st.sl o).2, st.h.next, s1.h.next⟩ : Foot) | _ => ⟨some [], some [], st.h.next, s1.h.next⟩)) →
        ∃ (tr : Nat → AS) (vv : Nat → AV), tr 0 = st ∧ tr ((d, g, o) :: l).length = st' ∧ (∀ (i : Nat) (x : AX), ((d, g, o) :: l)[i]? = some x → OneStep call x (tr i) (tr (i + 1)) (vv i)) ∧ ∀ (i : Nat), i < ((d, g, o) :: l).length → fs[i]? = some (footAt tr ((d, g, o) :: l) i) := by
      intro s1 v f fs1 hs h1 hfs hf
      obtain ⟨tr, vv, t1, t2, t3, t4⟩ := traceF l s1 st' fs1 h1
      refine ⟨fun i => match i with | 0 => st | i + 1 => tr i, fun i => match i with | 0 => v | i + 1 => vv i, rfl, t2, fun i x hx => ?_, fun i hi => ?_⟩
      · cases i with
        | zero =>
          simp only [List.getElem?_cons_zero, Option.some.injEq] at hx
          subst hx
          simp only [t1]
          exact hs
        | succ i =>
          simp only [List.getElem?_cons_succ] at hx
          exact t3 i x hx
      · subst hfs
        cases i with
        | zero =>
          simp only [List.getElem?_cons_zero, footAt, Option.some.injEq]
          rw [t1]
          exact hf
        | succ i =>
          simp only [List.length_cons] at hi
          simp only [List.getElem?_cons_succ, t4 i (by omega), footAt]
    rcases bif_cases h with ⟨rfl, h⟩ | ⟨rfl, h⟩
    · obtain ⟨r, h1, h⟩ := bind_some' h
      obtain ⟨q, h2, e⟩ := map_some' h
      obtain ⟨q1, q2⟩ := q
      cases e
      exact fin ⟨putSlot st.sl d r.1, r.2⟩ r.1 _ q2 ⟨.inl ⟨ht, h1⟩, rfl⟩ h2 rfl (by rw [ht])
    · obtain ⟨q, h2, e⟩ := map_some' h
      obtain ⟨q1, q2⟩ := q
      cases e
      exact fin ⟨putSlot st.sl d .undef, st.h⟩ .undef _ q2 ⟨.inr ⟨ht, rfl, rfl⟩, rfl⟩ h2 rfl (by rw [ht])

theorem footOf_S {o : AOp} (hS : o.cls = .S) (hc : o.isCall = false) : footOf sl o = (some [], some []) := by
  cases o <;> first
    | (cases hS; done)
    | (cases hc; done)
    | rfl

/-- What is known of the run, from its steps. -/
theorem tr_of {call : CallFn} (hcall : CallOk P call) {l : List AX} (hnS : ∀ (i : Nat) (x : AX), l[i]? = some x → x.2.2.isCall = true → x.2.2.cls ≠ .S) {preds : List (List Nat)} {pairs : List (Nat × Nat)} (ho : Ordered l preds pairs) {tr : Nat → AS} {vv : Nat → AV}
    (hst : ∀ (i : Nat) (x : AX), l[i]? = some x → OneStep call x (tr i) (tr (i + 1)) (vv i)) (hp : ∀ i j, (i, j) ∈ pairs → i < l.length → j < l.length → sepF (footAt tr l i) (footAt tr l j) = true)
    (hf : ∀ id, (tr 0).h.next ≤ id → (tr 0).h.heap id = none) (hlk : (tr 0).h.lock ≤ (tr 0).h.next) : Tr l preds pairs tr vv (footF tr l) ∧
      (∀ (i : Nat) (x : AX), l[i]? = some x → x.2.2.cls = .S → (tr (i + 1)).h = (tr i).h) ∧ ∀ i id, i < l.length → Ch tr i id → footF tr l i id := by
  have hkeep : ∀ (i : Nat) (x : AX), l[i]? = some x → Abs (tr i).h (tr (i + 1)).h ∧ (x.2.2.cls ≠ .W → ∀ id, id < (tr i).h.next → (tr (i + 1)).h.heap id = (tr i).h.heap id) ∧ (x.2.2.cls = .S → (tr (i + 1)).h = (tr i).h) := by
    intro i x hx
    obtain ⟨hstep, _⟩ := hst i x hx
    rcases hstep with ⟨_, hev⟩ | ⟨_, _, hsame⟩
    · obtain ⟨k1, k2, k3⟩ := evalOp_keeps hcall hev
      refine ⟨k1, k2, fun hS => k3 hS ?_⟩
      cases hic : x.2.2.isCall with
      | false => rfl
      | true => exact absurd hS (hnS i x hx hic)
    · rw [hsame]
      exact ⟨.refl _, fun _ _ _ => rfl, fun _ => rfl⟩
  have hwr : ∀ i id, i < l.length → Ch tr i id → ∀ ws, (footAt tr l i).wr = some ws → id ∈ ws := by
    intro i id hi hc ws hw
    have hx : l[i]? = some l[i] := List.getElem?_eq_getElem hi
    obtain ⟨hstep, _⟩ := hst i _ hx
    rcases hstep with ⟨hg, hev⟩ | ⟨hg, _, hsame⟩
    · rw [footAt_on hx hg] at hw
      exact evalOp_wr hcall hev hw id hc.1 hc.2
    · exact absurd (by rw [hsame]) hc.2
  have hemp : ∀ (i : Nat) (x : AX), l[i]? = some x → x.2.2.cls = .S → ∀ id, ¬ footF tr l i id := by
    intro i x hx hS id hm
    have hic : x.2.2.isCall = false := by
      cases hic : x.2.2.isCall with
      | false => rfl
      | true => exact absurd hS (hnS i x hx hic)
    obtain ⟨hstep, _⟩ := hst i x hx
    unfold footF at hm
    rcases hstep with ⟨hg, hev⟩ | ⟨hg, _, hsame⟩
    · rw [footAt_on hx hg, footOf_S hS hic] at hm
      cases hm
    · rw [footAt_off hx hg] at hm
      cases hm
  have hlo : ∀ i, i < l.length → (footAt tr l i).lo = (tr i).h.next ∧ (footAt tr l i).hi = (tr (i + 1)).h.next := by
    intro i hi
    have hx : l[i]? = some l[i] := List.getElem?_eq_getElem hi
    obtain ⟨hstep, _⟩ := hst i _ hx
    rcases hstep with ⟨hg, hev⟩ | ⟨hg, _, hsame⟩
    · rw [footAt_on hx hg]; exact ⟨rfl, rfl⟩
    · rw [footAt_off hx hg]; exact ⟨rfl, rfl⟩
  have hdis : ∀ i j, i < l.length → disjF (footAt tr l i).wr (footAt tr l j).rd = true → ∀ id, Ch tr i id → ¬ footF tr l j id := by
    intro i j hi hd id hc hm
    cases hw : (footAt tr l i).wr with
    | none => rw [hw] at hd; cases hd
    | some ws =>
      have hid := hwr i id hi hc ws hw
      rw [hw] at hd
      unfold footF at hm
      cases hr : (footAt tr l j).rd with
      | none =>
        rw [hr] at hd
        cases ws with
        | nil => cases hid
        | cons a b => cases hd
      | some rs =>
        rw [hr] at hd hm
        have := List.all_eq_true.1 hd id hid
        simp only [Bool.not_eq_true'] at this
        have hm' : rs.contains id = true := by simpa using (show id ∈ rs from hm)
        rw [hm'] at this
        cases this
  refine ⟨{
    ord := ho
    abs := fun i hi => (hkeep i _ (List.getElem?_eq_getElem hi)).1
    fresh0 := hf
    lock0 := hlk
    len := fun k hk => (trace_val hst k hk).1
    val := fun k hk => (trace_val hst k hk).2
    sep := fun i j hij hj hn => ?_ }, fun i x hx => (hkeep i x hx).2.2, fun i id hi hc => ?_⟩
  · have hxi : l[i]? = some l[i] := List.getElem?_eq_getElem (by omega)
    have hxj : l[j]? = some l[j] := List.getElem?_eq_getElem hj
    obtain ⟨_, hcp⟩ := ho.apart i j _ _ hij hxi hxj hn
    rcases hcp with hcp | hcp
    · have noW : ∀ (k : Nat) (x : AX), l[k]? = some x → x.2.2.cls ≠ .W → ∀ id, ¬ Ch tr k id := fun k x hx hW id hc => hc.2 ((hkeep k x hx).2.1 hW id hc.1)
      refine ⟨fun id hc => ?_, fun id hc => ?_⟩
      · by_cases hW : (l[i]).2.2.cls = .W
        · have : (l[j]).2.2.cls = .S := by
            rw [hW] at hcp
            cases hcj : (l[j]).2.2.cls <;> rw [hcj] at hcp <;> first | rfl | cases hcp
          exact hemp j _ hxj this id
        · exact absurd hc (noW i _ hxi hW id)
      · by_cases hW : (l[j]).2.2.cls = .W
        · have : (l[i]).2.2.cls = .S := by
            rw [hW] at hcp
            cases hcj : (l[i]).2.2.cls <;> rw [hcj] at hcp <;> first | rfl | cases hcp
          refine ⟨hemp i _ hxi this id, fun h => ?_⟩
          rw [(hkeep i _ hxi).2.2 this] at h
          omega
        · exact absurd hc (noW j _ hxj hW id)
    · have hs := hp i j hcp (by omega) hj
      unfold sepF at hs
      simp only [Bool.and_eq_true] at hs
      refine ⟨hdis i j (by omega) hs.1.1, fun id hc => ⟨hdis j i hj hs.1.2 id hc, fun h => ?_⟩⟩
      have h3 := hs.2
      cases hw : (footAt tr l j).wr with
      | none => rw [hw] at h3; cases h3
      | some ws =>
        rw [hw] at h3
        have h4 := List.all_eq_true.1 h3 id (hwr j id hj hc ws hw)
        rw [(hlo i (by omega)).1, (hlo i (by omega)).2] at h4
        simp only [Bool.or_eq_true] at h4
        rcases h4 with h4 | h4
        · have := Nat.le_of_ble_eq_true h4
          omega
        · have := Nat.le_of_ble_eq_true h4
          omega
  · have hx : l[i]? = some l[i] := List.getElem?_eq_getElem hi
    obtain ⟨hstep, _⟩ := hst i _ hx
    rcases hstep with ⟨hg, hev⟩ | ⟨hg, _, hsame⟩
    · refine (evalOp_part hev (F := footF tr l i) (fun id => ?_)).2 id hc.1 hc.2
      unfold footF
      rw [footAt_on hx hg]
    · exact absurd (by rw [hsame]) hc.2

theorem steps_any {call : CallFn} (hcall : CallOk P call) {hint : Hints} {ops : Array Oper} {l : List AX} (hl : compOpers P hint ops ops.toList = some l) {tr : Nat → AS} {vv : Nat → AV} {pairs : List (Nat × Nat)} (t : Tr l (predsOf ops.toList []) pairs tr vv (footF tr l)) (hsameS : ∀ (i : Nat) (x : AX), l[i]? = some x → x.2.2.cls = .S → (tr (i + 1)).h = (tr i).h) (hwrF : ∀ i id, i < l.length → Ch tr i id → footF tr l i id)
    (hst : ∀ (i : Nat) (x : AX), l[i]? = some x → OneStep call x (tr i) (tr (i + 1)) (vv i)) {ρ : Rho} {I : Nat → Prop} {hp0 : Hp} (hn : ∀ id, (tr 0).h.next ≤ id → id < (tr l.length).h.next → ρ id = none) {Q : Exit → Act → World → Prop}
    {w0 : World} (hQ : ∀ D a w ρD ID, (∀ i, i < l.length → D i = true) → Quiet w0 w → InvAt l tr vv ρ I hp0 D ρD ID a w.heap → Q .normal a w) : ∀ (fuel : Nat) (listed : Array Bool) (a : Act) (w : World) (ρD : Rho) (ID : Nat → Prop),
    listed.size = ops.size → listed.toList.count false ≤ fuel → Quiet w0 w → InvAt l tr vv ρ I hp0 (fun i => listed.getD i false) ρD ID a w.heap →
    (∀ i, listed.getD i false = true → i < l.length ∧ ∀ q ∈ (predsOf ops.toList []).getD i [], listed.getD q false = true) → wpAny P .any ops Q fuel listed a w := by
  obtain ⟨hlen, hget⟩ := compOpers_get _ _ hl
  have hlen : l.length = ops.size := by rw [hlen]; exact Array.length_toList
  have fin : ∀ (listed : Array Bool) (a : Act) (w : World) (ρD : Rho) (ID : Nat → Prop), listed.size = ops.size → Quiet w0 w → InvAt l tr vv ρ I hp0 (fun i => listed.getD i false) ρD ID a w.heap → Region.ready .any ops listed = [] → Q .normal a w := by
    intro listed a w ρD ID hsz hq inv hr
    refine hQ _ a w ρD ID ?_ hq inv
    intro i
    induction i using Nat.strongRecOn with
    | ind i ih =>
      intro hi
      cases hb : listed.getD i false with
      | true => rfl
      | false =>
        exfalso
        have hlt : i < ops.size := by omega
        have hm : i ∈ Region.ready .any ops listed := by
          rw [mem_ready]
          refine ⟨?_, ops[i], Array.getElem?_eq_getElem hlt, fun e he hbd => ?_⟩
          · have hli : i < listed.size := by omega
            simp [hli] at hb ⊢
            exact hb
          · have h1 := (preds_spec (Array.getElem?_eq_getElem hlt)).1 e he hbd
            have h2 := t.ord.lt i e.on hi h1
            exact ih e.on h2 (by omega)
        rw [hr] at hm
        cases hm
  intro fuel
  induction fuel with
  | zero =>
    intro listed a w ρD ID hsz hc hq inv hcl
    have hr : Region.ready .any ops listed = [] := by
      apply List.eq_nil_iff_forall_not_mem.2
      intro i hi
      rw [mem_ready] at hi
      have h0 : false ∉ listed.toList := List.count_eq_zero.1 (by omega)
      apply h0
      obtain ⟨h1, o, h2, _⟩ := hi
      have hli : i < listed.size := by
        have := (Array.getElem?_eq_some_iff.1 h2).1
        omega
      simp [hli] at h1
      rw [← h1]
      simp
    exact ⟨hr, fin listed a w ρD ID hsz hq inv hr⟩
  | succ fuel ih =>
    intro listed a w ρD ID hsz hc hq inv hcl
    refine ⟨fin listed a w ρD ID hsz hq inv, fun j hj => ?_⟩
    rw [mem_ready] at hj
    obtain ⟨hj0, o, hoj, hedges⟩ := hj
    have hjs : j < ops.size := (Array.getElem?_eq_some_iff.1 hoj).1
    have hjl : j < listed.size := by omega
    have hj1 : listed.getD j false = false := by
      simp [hjl] at hj0 ⊢
      exact hj0
    have hlt : j < l.length := by omega
    obtain ⟨x, hx⟩ : ∃ x, l[j]? = some x := ⟨_, List.getElem?_eq_getElem hlt⟩
    obtain ⟨o', ho', hco⟩ := hget j x hx
    rw [Array.getElem?_toList, hoj] at ho'
    cases ho'
    obtain ⟨hg, hop, hdst⟩ := compOper_spec hco
    have hready : ∀ i ∈ (predsOf ops.toList []).getD j [], listed.getD i false = true := by
      intro i hi
      obtain ⟨e, he, hb, h1⟩ := (preds_spec hoj).2 i hi
      have h2 := hedges e he hb
      rcases h1 with rfl | h1
      · exact h2
      · exact (hcl e.on h2).2 i h1
    have can : Can l (predsOf ops.toList []) (fun i => listed.getD i false) j x := ⟨hx, hj1, hready, hcl⟩
    have hDeq : (fun i => (listed.setIfInBounds j true).getD i false) = withD (fun i => listed.getD i false) j := by
      funext i
      simp only [withD]
      by_cases hij : i = j
      · subst hij
        simp [hjl]
      · simp only [hij, if_false]
        exact getD_set_ne false (fun e => hij e.symm)
    have next : ∀ a' (w' : World) ρ' I', Quiet w w' → InvAt l tr vv ρ I hp0 (withD (fun i => listed.getD i false) j) ρ' I' a' w'.heap → wpAny P .any ops Q fuel (listed.setIfInBounds j true) a' w' := by
      intro a' w' ρ' I' hq' inv'
      refine ih (listed.setIfInBounds j true) a' w' ρ' I' (by simpa using hsz) ?_ (hq.trans hq') (by rw [hDeq]; exact inv') ?_
      · have hli : listed.toList[j]? = some false := by
          rw [Array.getElem?_toList, Array.getElem?_eq_getElem hjl]
          simp [hjl] at hj1
          rw [hj1]
        have := count_set listed.toList j hli
        rw [Array.toList_setIfInBounds]
        omega
      · intro i hi
        have h1 : withD (fun i => listed.getD i false) j i = true := by rw [← hDeq]; exact hi
        simp only [withD] at h1
        by_cases hij : i = j
        · subst hij
          exact ⟨hlt, fun q hq => getD_set_true (hready q hq)⟩
        · simp only [hij, if_false] at h1
          exact ⟨(hcl i h1).1, fun q hq => getD_set_true ((hcl i h1).2 q hq)⟩
    -- the slots that it reads
    have hlenj : (tr j).sl.length = (tr 0).sl.length := t.len j (by omega)
    have hs : Slots ρD ID w.heap (only (tr j).sl (rd x)) a := by
      refine ⟨by rw [inv.size]; simp [only, hlenj], fun y => ?_⟩
      rw [only_get]
      split
      · rw [can.reads t (by assumption)]
        exact inv.slot y
      · trivial
    have hgc : guarded (tr j).sl x.2.1 = guarded (only (tr j).sl (rd x)) x.2.1 := by
      apply guarded_congr
      intro d b e
      rw [only_get, if_pos]
      simp [rd, e]
    have hec : ∀ h : AH, evalOp call (tr j).sl h x.2.2 = evalOp call (only (tr j).sl (rd x)) h x.2.2 := by
      intro h
      apply evalOp_congr
      intro i hi
      rw [only_get, if_pos]
      simp [rd, hi]
    have hpre : ∀ id, (tr j).h.next ≤ id → id < (tr (j + 1)).h.next → ρD id = none := by
      intro id h1 h2
      cases hρ : ρD id with
      | none => rfl
      | some p =>
        exfalso
        have g1 := t.nextle (Nat.zero_le j) (by omega)
        have g2 := t.nextle (show j + 1 ≤ l.length by omega) (Nat.le_refl _)
        obtain ⟨i, i1, i2, i3, i4⟩ := inv.dom id (by omega) (by omega) (by rw [hρ]; simp)
        rcases Nat.lt_trichotomy i j with hij | hij | hij
        · have := t.nextle (show i + 1 ≤ j by omega) (by omega)
          omega
        · subst hij
          rw [hj1] at i2
          cases i2
        · have := t.nextle (show j + 1 ≤ i by omega) (by omega)
          omega
    obtain ⟨hstep, hsl⟩ := hst j x hx
    unfold wpOp
    rw [hoj]
    simp only
    rcases hstep with ⟨hgt, hev⟩ | ⟨hgf, hvv, hsame⟩
    · have hev' := (evalOp_part hev (F := footF tr l j) (fun id => by unfold footF; rw [footAt_on hx hgt])).1
      rw [hgc] at hgt
      rw [hec] at hev hev'
      have hw := guard_sound hg hs hgt
      simp only [hw, if_true]
      left
      by_cases hS : x.2.2.cls = .S
      · have hnc : x.2.2.isCall = false := by
          cases hic : x.2.2.isCall with
          | false => rfl
          | true => exact absurd hS (comp_notS hop hic)
        have hv' : (pureV (only (tr j).sl (rd x)) x.2.2).map (fun v => (v, (tr j).h)) = some (vv j, (tr (j + 1)).h) := by
          unfold evalOp at hev
          split at hev
          · rename_i e; rw [e] at hnc; cases hnc
          · rename_i e; rw [e] at hnc; cases hnc
          · rw [hS] at hev; exact hev
        obtain ⟨u, hu, e⟩ := map_some' hv'
        have e1 : u = vv j := congrArg Prod.fst e
        subst e1
        obtain ⟨cv, c1, c2⟩ := pureV_sound hop hS hs hu w
        unfold Oper.wp
        rw [c1]
        simp only [Oper.upon]
        refine next _ _ ρD ID (.refl _) ?_
        rw [← hdst]
        exact inv.stay t can (hsameS j x hx hS) c2
      · have ok : Ok ρD ID ((tr j).h.only (footF tr l j) (tr j).h.next) w.heap := ⟨can.rel t inv, fun id hid => by
            rw [only_heap (.inr (show (tr j).h.next ≤ id from hid))]
            exact t.fresh (by omega) id hid, by
          have g1 := t.nextle (Nat.zero_le j) (by omega)
          have g2 := (t.abs' (Nat.zero_le j) (by omega)).lock
          have := t.lock0
          show (tr j).h.lock ≤ (tr j).h.next
          omega⟩
        refine evalOp_wp (h' := (tr (j + 1)).h.only (footF tr l j) (tr j).h.next) hcall hop ok (fun id h1 h2 => hpre id h1 h2) hs hev' ?_
        intro cv ρ' I' w' hv hext hquiet
        refine next _ _ ρ' I' hquiet ?_
        rw [← hdst]
        exact inv.move t can (fun id hc => hwrF j id hlt hc) hext hpre hv
    · rw [hgc] at hgf
      have hw := guard_sound hg hs hgf
      simp only [hw, Bool.false_eq_true, if_false]
      refine next _ _ ρD ID (.refl _) ?_
      rw [← hdst]
      exact inv.stay t can (by rw [hsame]) (by rw [hvv]; trivial)

theorem any_core {call : CallFn} (hcall : CallOk P call) {hint : Hints} {ops : Array Oper} {l : List AX} (hl : compOpers P hint ops ops.toList = some l) {pairs : List (Nat × Nat)} (ho : Ordered l (predsOf ops.toList []) pairs)
    {tr : Nat → AS} {vv : Nat → AV} (hst : ∀ (i : Nat) (x : AX), l[i]? = some x → OneStep call x (tr i) (tr (i + 1)) (vv i)) (hp : ∀ i j, (i, j) ∈ pairs → i < l.length → j < l.length → sepF (footAt tr l i) (footAt tr l j) = true)
    (ok : Ok ρ I (tr 0).h w.heap) (hn : ∀ id, (tr 0).h.next ≤ id → id < (tr l.length).h.next → ρ id = none) (hs : Slots ρ I w.heap (tr 0).sl a) (hd : a.defers = []) {Q : Exit → Act → World → Prop}
    (hQ : ∀ a' w', Reach ρ I (tr 0).h w (tr l.length) a' w' → Q .normal a' w') : wpAny P .any ops Q ops.size (Array.replicate ops.size false) a { w with drawn := w.drawn + 1 } := by
  obtain ⟨hlen, hget⟩ := compOpers_get _ _ hl
  obtain ⟨t, hsameS, hwrF⟩ := tr_of hcall (fun i x hx hic => by
    obtain ⟨o, _, hco⟩ := hget i x hx
    obtain ⟨_, hop, _⟩ := compOper_spec hco
    exact comp_notS hop hic) ho hst hp ok.fresh ok.lockle
  have habs := t.abs' (Nat.zero_le l.length) (Nat.le_refl _)
  have hfalse : ∀ i, (Array.replicate ops.size false).getD i false = false := by
    intro i
    by_cases hi : i < ops.size <;> simp [hi]
  have hnoD : ∀ k y, lastVal (tr 0).sl l vv (fun i => (Array.replicate ops.size false).getD i false) y k = (tr 0).sl.getD y .undef := by
    intro k y
    induction k with
    | zero => rfl
    | succ k ih =>
      simp only [lastVal]
      rw [if_neg (by rw [hfalse]; simp)]
      exact ih
  have hnoH : ∀ id k, HD tr (fun i => (Array.replicate ops.size false).getD i false) id k = (tr 0).h.heap id := by
    intro id k
    induction k with
    | zero => rfl
    | succ k ih =>
      simp only [HD]
      rw [if_neg (by rw [hfalse]; simp)]
      exact ih
  refine steps_any hcall hl t hsameS hwrF hst (ρ := ρ) (I := I) (hp0 := w.heap) (w0 := w) hn ?_ ops.size _ a _ ρ I (by simp) ?_ ⟨rfl, rfl, rfl⟩ ?_ ?_
  · intro D a' w' ρD ID hD hquiet inv
    apply hQ
    refine ⟨ρD, ID, ⟨by rw [inv.size, t.len _ (Nat.le_refl _)], fun y => ?_⟩, inv.defers, ?_, hquiet⟩
    · rw [t.val _ (Nat.le_refl _), lastVal_congr (D' := D) l.length (fun i hi _ => (hD i hi).symm)]
      exact inv.slot y
    · exact {
        rel := by
          have : (fun id => HD tr D id l.length) = (tr l.length).h.heap := by
            funext id
            rw [HD_congr (D' := fun _ => true) l.length (fun i hi _ => hD i hi), HD_all]
          rw [← this]
          exact inv.rel
        next := habs.next
        lock := habs.lock
        rho := inv.out
        imm := inv.imm
        own := inv.own
        ownρ := inv.ownρ
        size := inv.hsize
        frame := inv.frame
        shape := inv.shape
        dead := habs.dead
        low := habs.low t.lock0
        fresh := t.fresh (Nat.le_refl _) }
  · simp
  · exact {
      size := hs.1
      defers := hd
      slot := fun y => by rw [hnoD]; exact hs.2 y
      rel := by
        have : (fun id => HD tr (fun i => (Array.replicate ops.size false).getD i false) id l.length) = (tr 0).h.heap := by
          funext id
          rw [hnoH]
        rw [this]
        exact ok.rel
      dom := fun id h1 h2 h3 => absurd (hn id h1 h2) h3
      out := fun _ _ => rfl
      imm := fun _ h => h
      own := fun _ _ h => .inl h
      ownρ := fun id b o h1 h2 h3 _ => by rw [hn id h1 h2] at h3; cases h3
      hsize := Nat.le_refl _
      frame := fun _ _ _ => rfl
      shape := .refl _ }
  · intro i hi
    rw [hfalse] at hi
    cases hi

theorem execOps_any {call : CallFn} (hcall : CallOk P call) {hint : Hints} {ops : Array Oper} {l : List (Option Nat × Option (Nat × Bool) × AOp)} (hl : compOpers P hint ops ops.toList = some l) (ho : orderOk l (predsOf ops.toList []) = true)
    {st st' : AS} (he : execOps call l st = some st') (ok : Ok ρ I st.h w.heap) (hn : ∀ id, st.h.next ≤ id → id < st'.h.next → ρ id = none) (hs : Slots ρ I w.heap st.sl a) (hd : a.defers = []) {Q : Exit → Act → World → Prop}
    (hQ : ∀ a' w', Reach ρ I st.h w st' a' w' → Q .normal a' w') : wpAny P .any ops Q ops.size (Array.replicate ops.size false) a { w with drawn := w.drawn + 1 } := by
  obtain ⟨tr, vv, h0, hm, hst⟩ := trace l st st' he
  subst h0 hm
  exact any_core hcall hl (orderOk_spec ho) hst (fun i j hp => by cases hp) ok hn hs hd hQ

theorem execOpsF_any {call : CallFn} (hcall : CallOk P call) {hint : Hints} {ops : Array Oper} {l : List (Option Nat × Option (Nat × Bool) × AOp)} (hl : compOpers P hint ops ops.toList = some l) {pairs : List (Nat × Nat)} (ho : orderS l (predsOf ops.toList []) pairs = true)
    {st st' : AS} {fs : List Foot} (he : execOpsF call l st = some (st', fs)) (hsep : sepAll fs pairs = true) (ok : Ok ρ I st.h w.heap) (hn : ∀ id, st.h.next ≤ id → id < st'.h.next → ρ id = none) (hs : Slots ρ I w.heap st.sl a) (hd : a.defers = []) {Q : Exit → Act → World → Prop}
    (hQ : ∀ a' w', Reach ρ I st.h w st' a' w' → Q .normal a' w') : wpAny P .any ops Q ops.size (Array.replicate ops.size false) a { w with drawn := w.drawn + 1 } := by
  obtain ⟨tr, vv, h0, hm, hst, hfs⟩ := traceF l st st' fs he
  subst h0 hm
  refine any_core hcall hl (orderS_spec ho) hst (fun i j hp hi hj => ?_) ok hn hs hd hQ
  have := List.all_eq_true.1 hsep _ hp
  simp only [hfs i hi, hfs j hj] at this
  exact this

theorem execOpsF_execOps {call : CallFn} : ∀ {l : List AX} {st st' : AS} {fs : List Foot}, execOpsF call l st = some (st', fs) → execOps call l st = some st'
  | [], st, st', fs, h => by cases h; rfl
  | (d, g, o) :: l, st, st', fs, h => by
    simp only [execOpsF] at h
    obtain ⟨t, ht, h⟩ := bind_some' h
    simp only [execOps, ht, Option.bind_some]
    rcases bif_cases h with ⟨rfl, h⟩ | ⟨rfl, h⟩
    · obtain ⟨r, h1, h⟩ := bind_some' h
      obtain ⟨q, h2, e⟩ := map_some' h
      obtain ⟨q1, q2⟩ := q
      cases e
      simp only [cond_true, h1, Option.bind_some]
      exact execOpsF_execOps h2
    · obtain ⟨q, h2, e⟩ := map_some' h
      obtain ⟨q1, q2⟩ := q
      cases e
      simp only [cond_false]
      exact execOpsF_execOps h2
end
end Go.Ai
