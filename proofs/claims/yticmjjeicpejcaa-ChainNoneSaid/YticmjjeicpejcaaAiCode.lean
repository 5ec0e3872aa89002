/-
  Operations with calls, regions in the order of the text, code.
-/
import Derived.Test.YticmjjeicpejcaaAiMem7
set_option linter.unusedVariables false
set_option linter.unusedSimpArgs false
namespace Go.Ai

/-- What a step keeps of the abstract heap, whatever it does. -/
structure Abs (h h' : AH) : Prop where
  next : h.next ≤ h'.next
  lock : h'.lock = h.lock
  fresh : (∀ id, h.next ≤ id → h.heap id = none) → ∀ id, h'.next ≤ id → h'.heap id = none
  dead : ∀ id, id < h.next → h.heap id = none → h'.heap id = none
  low : h.lock ≤ h.next → ∀ id, id < h.lock → h'.heap id = h.heap id

theorem Abs.refl (h : AH) : Abs h h := ⟨Nat.le_refl _, rfl, fun h => h, fun _ _ h => h, fun _ _ _ => rfl⟩
theorem Abs.trans {a b c : AH} (x : Abs a b) (y : Abs b c) : Abs a c where
  next := Nat.le_trans x.next y.next
  lock := y.lock.trans x.lock
  fresh := fun h => y.fresh (x.fresh h)
  dead := fun id h e => y.dead id (by have := x.next; omega) (x.dead id h e)
  low := fun h id hid => by
    have h1 := x.next
    have h2 := x.lock
    rw [y.low (by omega) id (by omega), x.low h id hid]
theorem Abs.new (h : AH) (o : AObj) : Abs h (h.new o) where
  next := by simp [AH.new]
  lock := rfl
  fresh := fun hf id hid => by
    simp only [AH.new] at hid
    rw [AH.new_ne _ _ (by omega)]
    exact hf id (by omega)
  dead := fun id hid e => by rw [AH.new_ne _ _ (by omega)]; exact e
  low := fun hl id hid => by rw [AH.new_ne _ _ (by omega)]
theorem Abs.set {h h' : AH} {id : Nat} {o : Option AObj} (hs : h.set id o = some h') (hlive : h.heap id ≠ none) : Abs h h' := by
  obtain ⟨hle, rfl⟩ := set_lock hs
  exact {
    next := Nat.le_refl _
    lock := rfl
    fresh := fun hf j hj => by
      simp only
      rw [AHeap.put_ne _ _ (fun e => hlive (by rw [← e]; exact hf j hj))]
      exact hf j hj
    dead := fun j hj e => by
      simp only
      rw [AHeap.put_ne _ _ (fun e2 => hlive (by rw [← e2]; exact e))]
      exact e
    low := fun _ j hj => by
      simp only
      rw [AHeap.put_ne _ _ (by omega)] }
theorem cells_live {h : AH} {id : Nat} {cs : List AV} (hc : h.cells? id = some cs) : h.heap id ≠ none := by
  intro e
  unfold AH.cells? at hc
  rw [e] at hc
  cases hc

/-- What is asked of the calls that are let in. -/
def CallOk (P : Program) (call : CallFn) : Prop :=
  ∀ cl f args h v h', call cl f args h = some (v, h') →
    Abs h h' ∧ (cl ≠ .W → ∀ id, id < h.next → h'.heap id = h.heap id) ∧
    (∃ fn, P.funcs[f]? = some fn ∧ fn.body.isSome = true ∧ fn.name ≠ "runtime.NumGoroutine") ∧
    ∀ (ρ : Rho) (I : Nat → Prop) (w : World) (cargs : Array Value), Ok ρ I h w.heap → (∀ id, h.next ≤ id → id < h'.next → ρ id = none) → RVs ρ I w.heap args cargs.toList →
      Calls P f cargs w fun e w' => ∃ cv ρ' I', e = .returned cv ∧ RV ρ' I' w'.heap v cv ∧ Ext ρ I h w.heap ρ' I' h' w'.heap ∧ Quiet w w'

section
variable {ρ : Rho} {I : Nat → Prop} {P : Program} {h h' : AH} {w : World} {sl : List AV} {a : Act} {hp : Hp}

theorem Ok.next (ok : Ok ρ I h w.heap) {ρ' : Rho} {I' : Nat → Prop} {hp' : Hp} (he : Ext ρ I h w.heap ρ' I' h' hp') : Ok ρ' I' h' hp' :=
  ⟨he.rel, he.fresh, by have := he.lock; have := ok.lockle; have := he.next; omega⟩

theorem Slots.next (hs : Slots ρ I w.heap sl a) (ok : Ok ρ I h w.heap) {ρ' : Rho} {I' : Nat → Prop} {hp' : Hp} (he : Ext ρ I h w.heap ρ' I' h' hp') (hn : ∀ id, h.next ≤ id → id < h'.next → ρ id = none) :
    Slots ρ' I' hp' sl a := ⟨hs.1, fun i => he.RV ok.rel hn (hs.2 i)⟩

theorem Slots.put (hs : Slots ρ I hp sl a) (d : Option Nat) {v : AV} {cv : Value} (hv : RV ρ I hp v cv) : Slots ρ I hp (putSlot sl d v) (a.put d cv) := by
  cases d with
  | none => exact hs
  | some d =>
    refine ⟨by simp [putSlot, Act.put, hs.1], fun i => ?_⟩
    have h1 := hs.1
    by_cases hi : d = i
    · subst hi
      by_cases hlt : d < sl.length
      · have hlt' : d < a.tmps.size := by omega
        simp [putSlot, Act.put, List.getD, hlt, hlt', hv]
      · have hlt' : ¬ d < a.tmps.size := by omega
        have e1 : (putSlot sl (some d) v).getD d .undef = .undef := by simp [putSlot, List.getD, hlt]
        rw [e1]
        trivial
    · have e1 : (putSlot sl (some d) v).getD i .undef = sl.getD i .undef := by simp [putSlot, List.getD, List.getElem?_set, hi]
      have e2 : (a.put (some d) cv).tmps.getD i undef = a.tmps.getD i undef := by
        simp [Act.put, Array.getD_eq_getD_getElem?, Array.getElem?_setIfInBounds, hi]
      rw [e1, e2]
      exact hs.2 i

theorem put_defers (a : Act) (d : Option Nat) (v : Value) : (a.put d v).defers = a.defers := by cases d <;> rfl

theorem RVs_arr {args : List Arg} {xs : Array Operand} {sl : List AV} {a : Act} (h : compArgs xs.toList = some args) (hs : Slots ρ I hp sl a) : RVs ρ I hp (args.map (·.val sl)) (xs.map a.eval).toList := by
  simpa using compArgs_sound h hs

theorem run_callFunc {f : FuncId} {fn : Func} (h1 : P.funcs[f]? = some fn) (h2 : fn.body.isSome = true) (h3 : fn.name ≠ "runtime.NumGoroutine") (args : Array Value) : (callFunc f args).run P w = .ok (.enter f args) w := by
  have hb : fn.body.isNone = false := by cases hb : fn.body <;> simp_all
  simp [callFunc, h1, h3, hb]
  intro hn
  rw [hn] at h2
  cases h2

theorem set_next {id : Nat} {o : Option AObj} (hs : h.set id o = some h') : h'.next = h.next := by
  obtain ⟨_, rfl⟩ := set_lock hs
  rfl
theorem new_keeps (o : AObj) : h.next ≤ (h.new o).next ∧ ∀ id, id < h.next → (h.new o).heap id = h.heap id :=
  ⟨by simp [AH.new], fun id hid => AH.new_ne _ _ (by omega)⟩

/-- What an operation keeps, by its class. -/
theorem memV_keeps {ao : AOp} {v : AV} (hv : memV sl h ao = some (v, h')) : Abs h h' ∧ (ao.cls = .M → ∀ id, id < h.next → h'.heap id = h.heap id) := by
  have hid : h' = h → Abs h h' ∧ (ao.cls = .M → ∀ id, id < h.next → h'.heap id = h.heap id) := by
    rintro rfl
    exact ⟨.refl _, fun _ _ _ => rfl⟩
  have hnew : ∀ o, h' = h.new o → Abs h h' ∧ (ao.cls = .M → ∀ id, id < h.next → h'.heap id = h.heap id) := by
    rintro o rfl
    exact ⟨.new _ _, fun _ => (new_keeps o).2⟩
  cases ao <;> simp only [memV, reduceCtorEq] at hv
  case len k x =>
    split at hv <;> first
      | (cases hv; exact hid rfl)
      | (split at hv <;> first | (cases hv; done) | (cases hv; exact hid rfl))
      | (cases hv; done)
  case load e x =>
    split at hv
    · obtain ⟨_, _, e⟩ := map_some' hv; cases e; exact hid rfl
    · obtain ⟨_, _, hv⟩ := bind_some' hv; obtain ⟨_, _, e⟩ := map_some' hv; cases e; exact hid rfl
    · cases hv
  case store size x y =>
    split at hv
    · obtain ⟨_, hv⟩ := bif_some hv
      obtain ⟨_, hcs, hv⟩ := bind_some' hv
      obtain ⟨_, _, hv⟩ := bind_some' hv
      obtain ⟨h1, hs, hv⟩ := bind_some' hv
      cases hv
      exact ⟨.set hs (cells_live hcs), fun h => by cases h⟩
    · cases hv
  case box f x =>
    obtain ⟨_, hv⟩ := bif_some hv
    cases f with
    | true => cases hv; exact hid rfl
    | false => cases hv; exact hnew _ rfl
  case bslice e n z ps =>
    obtain ⟨_, _, hv⟩ := bind_some' hv
    cases hl : Nat.beq n 0 <;> rw [hl] at hv
    · obtain ⟨_, hv⟩ := bif_some hv; cases hv; exact hnew _ rfl
    · cases hv; exact hid rfl
  case mkslice e b z x y =>
    split at hv
    · split at hv
      · obtain ⟨_, hv⟩ := bif_some hv
        rcases bif_cases hv with ⟨_, hv⟩ | ⟨_, hv⟩
        · cases hv; exact hid rfl
        · cases hv; exact hnew _ rfl
      · cases hv
    · cases hv
  case mkmap => cases hv; exact hnew _ rfl
  case lookup kk z okk x k =>
    obtain ⟨_, hv⟩ := bif_some hv
    have hcore : ∀ {ks vs : List AV}, ((findKeyA (k.val sl) ks 0).bind fun r => match r with
        | some i => (vs[i]?).map fun v => ((bif okk then AV.tup [v, .bool true] else v), h)
        | none => some ((bif okk then AV.tup [z, .bool false] else z), h)) = some (v, h') → h' = h := by
      intro ks vs hv
      obtain ⟨r, _, hv⟩ := bind_some' hv
      cases r with
      | none => cases hv; rfl
      | some i => obtain ⟨_, _, e⟩ := map_some' hv; cases e; rfl
    split at hv
    · cases hv; exact hid rfl
    · exact hid (hcore hv)
    · split at hv
      · exact hid (hcore hv)
      · cases hv
    · cases hv
  case mapupd kk x k y =>
    obtain ⟨_, hv⟩ := bif_some hv
    split at hv
    · split at hv
      · rename_i hob
        obtain ⟨r, _, hv⟩ := bind_some' hv
        cases r with
        | none => obtain ⟨h1, hs, hv⟩ := bind_some' hv; cases hv; exact ⟨.set hs (by rw [hob]; simp), fun h => by cases h⟩
        | some i => obtain ⟨h1, hs, hv⟩ := bind_some' hv; cases hv; exact ⟨.set hs (by rw [hob]; simp), fun h => by cases h⟩
      · cases hv
    · cases hv
  case delete kk x k =>
    obtain ⟨_, hv⟩ := bif_some hv
    split at hv
    · split at hv
      · rename_i hob
        obtain ⟨r, _, hv⟩ := bind_some' hv
        cases r with
        | none => obtain ⟨h1, hs, hv⟩ := bind_some' hv; cases hv; exact ⟨.set hs (by rw [hob]; simp), fun h => by cases h⟩
        | some i => obtain ⟨h1, hs, hv⟩ := bind_some' hv; cases hv; exact ⟨.set hs (by rw [hob]; simp), fun h => by cases h⟩
      · cases hv
    · cases hv
  case append e b x y =>
    refine ⟨?_, fun h => by cases h⟩
    unfold appendV at hv
    obtain ⟨n, _, hv⟩ := bind_some' hv
    cases hn : Nat.beq n 0 <;> rw [hn] at hv
    · simp only [cond_false] at hv
      obtain ⟨_, _, hv⟩ := bind_some' hv
      split at hv
      · obtain ⟨_, hv⟩ := bif_some hv; cases hv; exact .new _ _
      · obtain ⟨_, hv⟩ := bif_some hv
        obtain ⟨_, hcs, hv⟩ := bind_some' hv
        rcases bif_cases hv with ⟨_, hv⟩ | ⟨_, hv⟩
        · obtain ⟨_, _, hv⟩ := bind_some' hv
          obtain ⟨h1, hs, hv⟩ := bind_some' hv
          cases hv
          exact .set hs (cells_live hcs)
        · obtain ⟨_, hv⟩ := bif_some hv
          obtain ⟨h1, hs, hv⟩ := bind_some' hv
          cases hv
          exact (Abs.set hs (cells_live hcs)).trans (.new _ _)
      · cases hv
    · simp only [cond_true] at hv
      split at hv <;> cases hv <;> exact .refl _
  case copy e x y =>
    refine ⟨?_, fun h => by cases h⟩
    unfold copyV at hv
    obtain ⟨n, _, hv⟩ := bind_some' hv
    obtain ⟨m, _, hv⟩ := bind_some' hv
    cases hk : Nat.beq (Nat.min m n) 0 <;> simp only [hk, cond_true, cond_false] at hv
    · obtain ⟨_, _, hv⟩ := bind_some' hv
      split at hv
      · obtain ⟨_, hv⟩ := bif_some hv
        obtain ⟨_, hcs, hv⟩ := bind_some' hv
        obtain ⟨_, _, hv⟩ := bind_some' hv
        obtain ⟨h1, hs, hv⟩ := bind_some' hv
        cases hv
        exact .set hs (cells_live hcs)
      · cases hv
    · cases hv; exact .refl _
  case clear e z x =>
    refine ⟨?_, fun h => by cases h⟩
    unfold clearV at hv
    split at hv
    · cases hv; exact .refl _
    · cases hv; exact .refl _
    · obtain ⟨_, hv⟩ := bif_some hv
      rcases bif_cases hv with ⟨_, hv⟩ | ⟨_, hv⟩
      · cases hv; exact .refl _
      · obtain ⟨_, hcs, hv⟩ := bind_some' hv
        obtain ⟨_, _, hv⟩ := bind_some' hv
        obtain ⟨h1, hs, hv⟩ := bind_some' hv
        cases hv
        exact .set hs (cells_live hcs)
    · cases hv

theorem evalOp_keeps {call : CallFn} (hcall : CallOk P call) {ao : AOp} {v : AV} (hv : evalOp call sl h ao = some (v, h')) :
    Abs h h' ∧ (ao.cls ≠ .W → ∀ id, id < h.next → h'.heap id = h.heap id) ∧ (ao.cls = .S → ao.isCall = false → h' = h) := by
  unfold evalOp at hv
  split at hv
  · obtain ⟨h1, h2, _⟩ := hcall _ _ _ _ _ _ hv
    exact ⟨h1, h2, fun _ h => by cases h⟩
  · split at hv
    · obtain ⟨h1, h2, _⟩ := hcall _ _ _ _ _ _ hv
      exact ⟨h1, h2, fun _ h => by cases h⟩
    · cases hv
  · split at hv
    · obtain ⟨_, _, e⟩ := map_some' hv
      cases e
      exact ⟨.refl _, fun _ _ _ => rfl, fun _ _ => rfl⟩
    · rename_i hne
      obtain ⟨h1, h2⟩ := memV_keeps hv
      refine ⟨h1, fun hW => ?_, fun hS => absurd hS (by simpa using hne)⟩
      cases hcl : AOp.cls ao with
      | S => exact absurd hcl (by simpa using hne)
      | M => exact h2 hcl
      | W => exact absurd hcl hW

theorem comp_isCall {hint : Hints} {o : Oper} {ao : AOp} (hc : compOp P hint o = some ao) (hic : ao.isCall = true) : ∃ c, o.op = .call c := by
  cases hop : o.op <;> simp only [compOp, hop, reduceCtorEq] at hc
  case call c => exact ⟨c, rfl⟩
  all_goals exfalso
  case move x => obtain ⟨ar, h1, rfl⟩ := map_some' hc; cases hic
  case assign x => obtain ⟨ar, h1, rfl⟩ := map_some' hc; cases hic
  case nilCheck x => obtain ⟨ar, h1, rfl⟩ := map_some' hc; cases hic
  case extract x i => obtain ⟨ar, h1, rfl⟩ := map_some' hc; cases hic
  case pick c x y =>
    obtain ⟨ac, h1, hc⟩ := bind_some' hc
    obtain ⟨ax, h2, hc⟩ := bind_some' hc
    obtain ⟨ay, h3, hc⟩ := bind_some' hc
    cases hc; cases hic
  case alloc t =>
    obtain ⟨z, h1, hc⟩ := bind_some' hc
    obtain ⟨e, h2, hc⟩ := bind_some' hc
    cases hc; cases hic
  case box t x =>
    obtain ⟨e, h2, hc⟩ := bind_some' hc
    obtain ⟨ar, h3, hc⟩ := bind_some' hc
    cases hc; cases hic
  case load t x =>
    obtain ⟨k, h1, hc⟩ := bind_some' hc
    obtain ⟨ax, h2, hc⟩ := bind_some' hc
    cases hc; cases hic
  case store t x y =>
    obtain ⟨k, h1, hc⟩ := bind_some' hc
    obtain ⟨ax, h2, hc⟩ := bind_some' hc
    obtain ⟨ay, h3, hc⟩ := bind_some' hc
    cases hc; cases hic
  case binOp op t x y yt =>
    cases hd : P.underlying t with
    | none => rw [hd] at hc; cases hc
    | some d =>
      rw [hd] at hc
      have gen : ((compArg x).bind fun a => (compArg y).bind fun b => some (AOp.bin op (eqKOf P t) a b)) = some ao → False := by
        intro hc
        obtain ⟨_, _, hc⟩ := bind_some' hc
        obtain ⟨_, _, hc⟩ := bind_some' hc
        cases hc; cases hic
      cases d <;> first
        | exact gen hc
        | (obtain ⟨_, hc⟩ := bif_some hc
           obtain ⟨_, _, hc⟩ := bind_some' hc
           obtain ⟨_, _, hc⟩ := bind_some' hc
           obtain ⟨_, _, hc⟩ := bind_some' hc
           cases op <;> first | (cases hc; done) | (cases hc; cases hic; done))
  case unOp op t x =>
    cases op <;> first | (cases hc; done) | skip
    obtain ⟨ar, h1, rfl⟩ := map_some' hc; cases hic
  case convert src dst x =>
    cases hd : P.underlying src with
    | none => rw [hd] at hc; cases hc
    | some d =>
      rw [hd] at hc
      cases hd' : P.underlying dst with
      | none => rw [hd'] at hc; cases d <;> cases hc
      | some d' =>
        rw [hd'] at hc
        cases d <;> first | (cases d' <;> cases hc; done) | skip
        cases d' <;> first | (cases hc; done) | skip
        obtain ⟨ar, h1, rfl⟩ := map_some' hc; cases hic
  case makeFunc fn first captured =>
    cases fn <;> first | (cases hc; done) | skip
    obtain ⟨h1, hc⟩ := bif_some hc
    obtain ⟨ars, h2, rfl⟩ := map_some' hc; cases hic
  case makeMap t r =>
    cases r <;> simp only [reduceCtorEq] at hc
    cases hd : P.underlying t with
    | none => rw [hd] at hc; cases hc
    | some d =>
      rw [hd] at hc
      cases d <;> first | (cases hc; done) | (cases hc; cases hic; done)
  case build t parts =>
    cases hd : P.underlying t with
    | none => rw [hd] at hc; cases hc
    | some d =>
      rw [hd] at hc
      cases d <;> first | (cases hc; done) | skip
      obtain ⟨_, _, hc⟩ := bind_some' hc
      obtain ⟨_, _, hc⟩ := bind_some' hc
      obtain ⟨_, _, hc⟩ := bind_some' hc
      cases hc; cases hic
  case buildSlice t len parts =>
    cases hd : P.underlying t with
    | none => rw [hd] at hc; cases hc
    | some d =>
      rw [hd] at hc
      cases d <;> first | (cases hc; done) | skip
      obtain ⟨_, _, hc⟩ := bind_some' hc
      obtain ⟨_, _, hc⟩ := bind_some' hc
      obtain ⟨_, hc⟩ := bif_some hc
      obtain ⟨_, _, hc⟩ := bind_some' hc
      cases hc; cases hic
  case makeSlice t l c =>
    cases hd : P.underlying t with
    | none => rw [hd] at hc; cases hc
    | some d =>
      rw [hd] at hc
      cases d <;> first | (cases hc; done) | skip
      obtain ⟨_, _, hc⟩ := bind_some' hc
      obtain ⟨_, _, hc⟩ := bind_some' hc
      obtain ⟨_, _, hc⟩ := bind_some' hc
      obtain ⟨_, _, hc⟩ := bind_some' hc
      obtain ⟨_, _, hc⟩ := bind_some' hc
      cases hc; cases hic
  case slice t x lo hi mx =>
    cases hd : P.underlying t with
    | none => rw [hd] at hc; cases hc
    | some d =>
      rw [hd] at hc
      cases d <;> first | (cases hc; done) | skip
      · obtain ⟨_, _, hc⟩ := bind_some' hc
        obtain ⟨_, _, hc⟩ := bind_some' hc
        obtain ⟨_, _, hc⟩ := bind_some' hc
        cases mx <;> first | (cases hc; done) | (cases hc; cases hic; done)
      · obtain ⟨_, _, hc⟩ := bind_some' hc
        obtain ⟨_, _, hc⟩ := bind_some' hc
        obtain ⟨_, _, hc⟩ := bind_some' hc
        obtain ⟨_, _, hc⟩ := bind_some' hc
        obtain ⟨_, _, hc⟩ := bind_some' hc
        cases hc; cases hic
  case fieldAddr st x f =>
    cases hd : P.underlying st with
    | none => rw [hd] at hc; cases hc
    | some d =>
      rw [hd] at hc
      cases d <;> first | (cases hc; done) | skip
      obtain ⟨_, _, hc⟩ := bind_some' hc
      obtain ⟨_, _, hc⟩ := bind_some' hc
      obtain ⟨_, hc⟩ := bif_some hc
      obtain ⟨_, _, rfl⟩ := map_some' hc; cases hic
  case field st x f =>
    cases hd : P.underlying st with
    | none => rw [hd] at hc; cases hc
    | some d =>
      rw [hd] at hc
      cases d <;> first | (cases hc; done) | skip
      obtain ⟨_, _, hc⟩ := bind_some' hc
      obtain ⟨_, _, hc⟩ := bind_some' hc
      obtain ⟨_, _, rfl⟩ := map_some' hc; cases hic
  case indexAddr t x i =>
    cases hd : P.underlying t with
    | none => rw [hd] at hc; cases hc
    | some d =>
      rw [hd] at hc
      cases d <;> first | (cases hc; done) | skip
      obtain ⟨_, _, hc⟩ := bind_some' hc
      obtain ⟨_, _, hc⟩ := bind_some' hc
      obtain ⟨_, _, hc⟩ := bind_some' hc
      cases hc; cases hic
  case index t x i =>
    cases hd : P.underlying t with
    | none => rw [hd] at hc; cases hc
    | some d =>
      rw [hd] at hc
      cases d <;> first | (cases hc; done) | skip
      obtain ⟨_, _, hc⟩ := bind_some' hc
      obtain ⟨_, _, hc⟩ := bind_some' hc
      cases hc; cases hic
  case lookup t x k okk =>
    cases hd : P.underlying t with
    | none => rw [hd] at hc; cases hc
    | some d =>
      rw [hd] at hc
      cases d <;> first | (cases hc; done) | skip
      obtain ⟨_, _, hc⟩ := bind_some' hc
      obtain ⟨_, _, hc⟩ := bind_some' hc
      obtain ⟨_, _, hc⟩ := bind_some' hc
      obtain ⟨_, _, hc⟩ := bind_some' hc
      cases hc; cases hic
  case mapUpdate t m k x =>
    cases hd : P.underlying t with
    | none => rw [hd] at hc; cases hc
    | some d =>
      rw [hd] at hc
      cases d <;> first | (cases hc; done) | skip
      obtain ⟨_, _, hc⟩ := bind_some' hc
      obtain ⟨_, _, hc⟩ := bind_some' hc
      obtain ⟨_, _, hc⟩ := bind_some' hc
      obtain ⟨_, _, hc⟩ := bind_some' hc
      cases hc; cases hic
  case insert t m k x =>
    cases hd : P.underlying t with
    | none => rw [hd] at hc; cases hc
    | some d =>
      rw [hd] at hc
      cases d <;> first | (cases hc; done) | skip
      obtain ⟨_, _, hc⟩ := bind_some' hc
      obtain ⟨_, _, hc⟩ := bind_some' hc
      obtain ⟨_, _, hc⟩ := bind_some' hc
      obtain ⟨_, _, hc⟩ := bind_some' hc
      cases hc; cases hic

/-- One operation, at the level of the walk. -/
theorem evalOp_wp {call : CallFn} (hcall : CallOk P call) {hint : Hints} {o : Oper} {ao : AOp} (hc : compOp P hint o = some ao) (ok : Ok ρ I h w.heap) (hnext : ∀ id, h.next ≤ id → id < h'.next → ρ id = none)
    {sl : List AV} {a : Act} (hs : Slots ρ I w.heap sl a) {v : AV} (hv : evalOp call sl h ao = some (v, h')) {next : Act → World → Prop} {Q : Exit → Act → World → Prop}
    (hk : ∀ cv ρ' I' w', RV ρ' I' w'.heap v cv → Ext ρ I h w.heap ρ' I' h' w'.heap → Quiet w w' → next (a.put o.dst cv) w') : o.wp P a w next Q := by
  have hplain : ∀ (hd : Does P ρ I h (execOp a.eval o) v h' w), o.wp P a w next Q := by
    rintro ⟨ρ', I', w', cv, h1, h2, h3, hq⟩
    unfold Oper.wp
    rcases h1 with h1 | ⟨h1, rfl⟩
    · rw [h1]; exact hk _ _ _ _ h2 h3 hq
    · rw [h1]; exact hk _ _ _ _ h2 h3 hq
  cases hic : ao.isCall with
  | false =>
    apply hplain
    by_cases hS : ao.cls = .S
    · have hv' : (pureV sl ao).map (fun v => (v, h)) = some (v, h') := by
        unfold evalOp at hv
        split at hv
        · cases hic
        · cases hic
        · rw [hS] at hv; exact hv
      obtain ⟨u, hu, e⟩ := map_some' hv'
      cases e
      obtain ⟨cv, c1, c2⟩ := pureV_sound hc hS hs hu w
      exact ⟨ρ, I, w, cv, .inl c1, c2, .refl ok.rel ok.fresh, .refl _⟩
    · have hv' : memV sl h ao = some (v, h') := by
        unfold evalOp at hv
        split at hv
        · cases hic
        · cases hic
        · split at hv
          · exact absurd (by assumption) hS
          · exact hv
      exact memV_sound hc hS hic ok hnext hs hv'
  | true =>
    have hcallee : ∀ f (cargs : Array Value), (execOp a.eval o).run P w = .ok (.enter f cargs) w → (Calls P f cargs w fun e w' => ∃ cv ρ' I', e = .returned cv ∧ RV ρ' I' w'.heap v cv ∧ Ext ρ I h w.heap ρ' I' h' w'.heap ∧ Quiet w w') → o.wp P a w next Q := by
      intro f cargs h1 h2
      unfold Oper.wp
      rw [h1]
      refine h2.mono ?_
      rintro e w' ⟨cv, ρ', I', rfl, h3, h4, hq⟩
      exact hk _ _ _ _ h3 h4 hq
    have hcallop := comp_isCall hc hic
    cases hop : o.op <;> simp only [compOp, hop, reduceCtorEq] at hc
    case call c =>
      have hexec : (execOp a.eval o) = (do let d ← resolve a.eval c o.type; invoke d.target d.args) := by simp only [execOp, hop]
      cases hcal : c.callee with
      | invoke r n => rw [hcal] at hc; cases hc
      | builtin bi =>
        rw [hcal] at hc
        simp only at hc
        exfalso
        unfold compBuiltin at hc
        split at hc
        · obtain ⟨_, _, _, _, _, _, _, rfl⟩ := compLen_spec hc; cases hic
        · obtain ⟨_, _, _, _, _, _, _, _, _, _, _, _, _, _, _, _, _, _, _, _, _, rfl⟩ := compAppend_spec hc; cases hic
        · obtain ⟨_, _, _, _, _, _, _, _, _, _, _, _, _, _, _, _, rfl⟩ := compCopy_spec hc; cases hic
        · obtain ⟨_, _, _, _, _, _, _, _, _, _, _, _, rfl⟩ := compClear_spec hc; cases hic
        · obtain ⟨_, _, _, _, _, _, _, _, _, _, _, _, _, _, rfl⟩ := compDelete_spec hc; cases hic
        · obtain ⟨_, hc⟩ := bif_some hc; obtain ⟨ars, h1, rfl⟩ := map_some' hc; cases hic
        · obtain ⟨_, hc⟩ := bif_some hc; obtain ⟨ars, h1, rfl⟩ := map_some' hc; cases hic
        · cases hc
      | value f =>
        rw [hcal] at hc
        have hval : ∀ x : Operand, f = x → ∀ ar, compArg x = some ar → (∃ as, compArgs c.args.toList = some as ∧ ∃ cl, ao = .callv cl ar as) → o.wp P a w next Q := by
          rintro x rfl ar har ⟨as, has, cl, rfl⟩
          simp only [evalOp] at hv
          have hf := compArg_sound har hs
          split at hv
          · rename_i g caps hg
            rw [hg] at hf
            obtain ⟨cap, ef, hcap⟩ := hf
            obtain ⟨_, _, ⟨fn, f1, f2, f3⟩, hcs⟩ := hcall _ _ _ _ _ _ hv
            refine hcallee g (c.args.map a.eval ++ cap) ?_ (hcs ρ I w _ ok hnext ?_)
            · rw [hexec]
              simp only [resolve, hcal, ef, Deferred.ofValue, Sem.run_bind, Sem.run_pure, Result.andThen_ok, invoke, Array.empty_append]
              exact run_callFunc f1 f2 f3 _
            · rw [Array.toList_append]
              exact RVs_append (RVs_arr has hs) hcap
          · cases hv
        cases f with
        | func g =>
          simp only at hc
          cases hf : P.funcs[g]? with
          | none => rw [hf] at hc; cases hc
          | some fn =>
            rw [hf] at hc
            obtain ⟨h1, hc⟩ := bif_some hc
            obtain ⟨as, has, rfl⟩ := map_some' hc
            simp only [evalOp] at hv
            obtain ⟨_, _, ⟨fn', f1, f2, f3⟩, hcs⟩ := hcall _ _ _ _ _ _ hv
            refine hcallee g (c.args.map a.eval) ?_ (hcs ρ I w _ ok hnext (RVs_arr has hs))
            rw [hexec]
            have e1 : a.eval (.func g) = .func (.func g) #[] #[] := rfl
            simp only [resolve, hcal, e1, Deferred.ofValue, Sem.run_bind, Sem.run_pure, Result.andThen_ok, invoke, Array.empty_append, Array.append_empty]
            exact run_callFunc f1 f2 f3 _
        | tmp t =>
          obtain ⟨h1, hc⟩ := bif_some hc
          obtain ⟨ar, har, hc⟩ := bind_some' hc
          obtain ⟨as, has, rfl⟩ := map_some' hc
          exact hval _ rfl ar har ⟨as, has, _, rfl⟩
        | const v =>
          obtain ⟨h1, hc⟩ := bif_some hc
          obtain ⟨ar, har, hc⟩ := bind_some' hc
          obtain ⟨as, has, rfl⟩ := map_some' hc
          exact hval _ rfl ar har ⟨as, has, _, rfl⟩
        | global g =>
          obtain ⟨h1, hc⟩ := bif_some hc
          obtain ⟨ar, har, hc⟩ := bind_some' hc
          obtain ⟨as, has, rfl⟩ := map_some' hc
          exact hval _ rfl ar har ⟨as, has, _, rfl⟩
    all_goals
      exfalso
      obtain ⟨c, hc'⟩ := hcallop
      rw [hop] at hc'
      cases hc'
end
end Go.Ai
