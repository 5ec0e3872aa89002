/-
  Every operation without a call that looks at memory or changes it.
-/
import Derived.Test.YticmjjeicpejcaaAiMem6
set_option linter.unusedVariables false
set_option linter.unusedSimpArgs false
namespace Go.Ai

def AOp.isCall : AOp → Bool
  | .call .. | .callv .. => true
  | _ => false

section
variable {ρ : Rho} {I : Nat → Prop} {P : Program} {h h' : AH} {w : World}

theorem Does.of {s : Sem Value} {v : AV} (hd : ∃ ρ' I' w' cv, s.run P w = .ok cv w' ∧ RV ρ' I' w'.heap v cv ∧ Ext ρ I h w.heap ρ' I' h' w'.heap ∧ Quiet w w') : Does P ρ I h (do pure (.value (← s))) v h' w := by
  obtain ⟨ρ', I', w', cv, h1, h2, h3⟩ := hd
  exact ⟨ρ', I', w', cv, .inl (by simp [h1]), h2, h3⟩
theorem Does.ofSame (ok : Ok ρ I h w.heap) {s : Sem Value} {v : AV} (hd : h' = h ∧ ∃ cv, s.run P w = .ok cv w ∧ RV ρ I w.heap v cv) : Does P ρ I h (do pure (.value (← s))) v h' w := by
  obtain ⟨rfl, cv, h1, h2⟩ := hd
  exact Does.same ok h1 h2
theorem Does.ofUnit {s : Sem Unit} {v : AV} (hd : v = .undef ∧ ∃ w', s.run P w = .ok () w' ∧ Ext ρ I h w.heap ρ I h' w'.heap ∧ Quiet w w') : Does P ρ I h (do s; pure .skip) v h' w := by
  obtain ⟨rfl, w', h1, h2⟩ := hd
  exact ⟨ρ, I, w', undef, .inr ⟨by simp [h1], rfl⟩, trivial, h2⟩

theorem memV_sound {hint : Hints} {o : Oper} {ao : AOp} (hc : compOp P hint o = some ao) (hcls : ao.cls ≠ .S) (hnc : ao.isCall = false) (ok : Ok ρ I h w.heap) (hnext : ∀ id, h.next ≤ id → id < h'.next → ρ id = none)
    {sl : List AV} {a : Act} (hs : Slots ρ I w.heap sl a) {v : AV} (hv : memV sl h ao = some (v, h')) : Does P ρ I h (execOp a.eval o) v h' w := by
  cases hop : o.op <;> simp only [compOp, hop, reduceCtorEq] at hc
  case move x => obtain ⟨ar, h1, rfl⟩ := map_some' hc; exact absurd rfl hcls
  case assign x => obtain ⟨ar, h1, rfl⟩ := map_some' hc; exact absurd rfl hcls
  case pick c x y =>
    obtain ⟨ac, h1, hc⟩ := bind_some' hc
    obtain ⟨ax, h2, hc⟩ := bind_some' hc
    obtain ⟨ay, h3, hc⟩ := bind_some' hc
    cases hc; exact absurd rfl hcls
  case alloc t =>
    obtain ⟨z, h1, hc⟩ := bind_some' hc
    obtain ⟨e, h2, hc⟩ := bind_some' hc
    cases hc
    obtain ⟨i, zv, hi, hz, hcz⟩ := zeroOf_spec h1
    obtain ⟨ρ', I', b1, b2⟩ := box_does (E := t) ok hnext (constOf_sound hcz) (ax := .c z) rfl hv
    refine ⟨ρ', I', w.alloc (.cells zv.cells t), _, .inl ?_, b1, b2, rfl, rfl, rfl⟩
    simp [execOp, hop, Instr.alloc, run_zeroValue' hi hz, run_newVar]
  case box t x =>
    obtain ⟨e, h2, hc⟩ := bind_some' hc
    obtain ⟨ar, h3, hc⟩ := bind_some' hc
    cases hc
    obtain ⟨ρ', I', b1, b2⟩ := box_does (E := t) ok hnext (compArg_sound h3 hs) rfl hv
    refine ⟨ρ', I', w.alloc (.cells (a.eval x).cells t), _, .inl ?_, b1, b2, rfl, rfl, rfl⟩
    simp [execOp, hop, Instr.box, run_newVar]
  case build t parts =>
    cases hd : P.underlying t with
    | none => rw [hd] at hc; cases hc
    | some d =>
      rw [hd] at hc
      cases d <;> first | (cases hc; done) | skip
      obtain ⟨z, h1, hc⟩ := bind_some' hc
      obtain ⟨pl, h2, hc⟩ := bind_some' hc
      obtain ⟨ps, h3, hc⟩ := bind_some' hc
      cases hc; exact absurd rfl hcls
  case buildSlice t len parts =>
    cases hd : P.underlying t with
    | none => rw [hd] at hc; cases hc
    | some d =>
      rw [hd] at hc
      cases d <;> first | (cases hc; done) | skip
      rename_i e
      obtain ⟨k, h1, hc⟩ := bind_some' hc
      obtain ⟨z, h2, hc⟩ := bind_some' hc
      obtain ⟨h3, hc⟩ := bif_some hc
      obtain ⟨ps, h4, hc⟩ := bind_some' hc
      cases hc
      simp only [Bool.and_eq_true] at h3
      obtain ⟨d, i, _, hi, _, hsz, hpos, _⟩ := ekOf_spec h1
      obtain ⟨i', zv, hi', hz, hcz⟩ := zeroOf_spec h2
      rw [hi] at hi'; cases hi'
      obtain ⟨g1, g2, _⟩ := constOf_cells (ρ := ρ) (I := I) (hp := w.heap) hcz
      have := bslice_does (P := P) (w := w) ok hnext hd hi hz hsz hpos g1 g2 (Nat.le_of_ble_eq_true h3.1) h4 hs (Nat.eq_of_beq_eq_true h3.2) hv
      simpa [execOp, hop] using Does.of this
  case load t x =>
    obtain ⟨k, h1, hc⟩ := bind_some' hc
    obtain ⟨ax, h2, hc⟩ := bind_some' hc
    cases hc
    have := load_does (P := P) ok h1 (compArg_sound h2 hs) rfl hv
    simpa [execOp, hop] using Does.ofSame ok this
  case store t x y =>
    obtain ⟨k, h1, hc⟩ := bind_some' hc
    obtain ⟨ax, h2, hc⟩ := bind_some' hc
    obtain ⟨ay, h3, hc⟩ := bind_some' hc
    cases hc
    have := store_does (P := P) ok h1 (compArg_sound h2 hs) (compArg_sound h3 hs) rfl rfl hv
    simpa [execOp, hop] using Does.ofUnit this
  case nilCheck x => obtain ⟨ar, h1, rfl⟩ := map_some' hc; exact absurd rfl hcls
  case binOp op t x y yt =>
    exfalso
    have : ao.cls = .S := by
      cases hd : P.underlying t with
      | none => rw [hd] at hc; cases hc
      | some d =>
        rw [hd] at hc
        have gen : ((compArg x).bind fun a => (compArg y).bind fun b => some (AOp.bin op (eqKOf P t) a b)) = some ao → ao.cls = .S := by
          intro hc
          obtain ⟨_, _, hc⟩ := bind_some' hc
          obtain ⟨_, _, hc⟩ := bind_some' hc
          cases hc; rfl
        cases d <;> first
          | exact gen hc
          | (obtain ⟨_, hc⟩ := bif_some hc
             obtain ⟨_, _, hc⟩ := bind_some' hc
             obtain ⟨_, _, hc⟩ := bind_some' hc
             obtain ⟨_, _, hc⟩ := bind_some' hc
             cases op <;> first | (cases hc; done) | (cases hc; rfl))
    exact hcls this
  case unOp op t x =>
    cases op <;> first | (cases hc; done) | skip
    obtain ⟨ar, h1, rfl⟩ := map_some' hc; exact absurd rfl hcls
  case convert src dst x =>
    exfalso
    cases hd : P.underlying src with
    | none => rw [hd] at hc; cases hc
    | some d =>
      rw [hd] at hc
      cases hd' : P.underlying dst with
      | none => rw [hd'] at hc; cases d <;> cases hc
      | some d' =>
        rw [hd'] at hc
        cases d <;> first | (cases d' <;> cases hc; done) | skip
        cases d' <;> first | (cases hc; done) | skip
        obtain ⟨ar, h1, rfl⟩ := map_some' hc; exact hcls rfl
  case makeFunc fn first captured =>
    cases fn <;> first | (cases hc; done) | skip
    obtain ⟨h1, hc⟩ := bif_some hc
    obtain ⟨ars, h2, rfl⟩ := map_some' hc; exact absurd rfl hcls
  case makeMap t r =>
    cases r <;> simp only [reduceCtorEq] at hc
    cases hd : P.underlying t with
    | none => rw [hd] at hc; cases hc
    | some d =>
      rw [hd] at hc
      cases d <;> first | (cases hc; done) | skip
      cases hc
      cases hv
      obtain ⟨g1, g2⟩ := mkmap_does (ρ := ρ) (I := I) (w := w) ok (hnext _ (Nat.le_refl _) (by simp [AH.new]))
      refine ⟨_, I, w.alloc (.map #[] 0), _, .inl ?_, g2, g1, rfl, rfl, rfl⟩
      simp [execOp, hop, Instr.makeMap]
  case makeSlice t l c =>
    cases hd : P.underlying t with
    | none => rw [hd] at hc; cases hc
    | some d =>
      rw [hd] at hc
      cases d <;> first | (cases hc; done) | skip
      obtain ⟨k, h1, hc⟩ := bind_some' hc
      obtain ⟨z, h2, hc⟩ := bind_some' hc
      obtain ⟨b, h3, hc⟩ := bind_some' hc
      obtain ⟨ax, h4, hc⟩ := bind_some' hc
      obtain ⟨ay, h5, hc⟩ := bind_some' hc
      cases hc
      obtain ⟨d, i, _, hi, _, hsz, hpos, _⟩ := ekOf_spec h1
      obtain ⟨i', zv, hi', hz, hcz⟩ := zeroOf_spec h2
      rw [hi] at hi'; cases hi'
      have hb : b = i.bytes := by simp [bytesOf, hi] at h3; exact h3.symm
      subst hb
      obtain ⟨g1, g2, _⟩ := constOf_cells (ρ := ρ) (I := I) (hp := w.heap) hcz
      have := mkslice_does (P := P) (w := w) ok hnext hd hi hz hsz hpos g1 g2 (compArg_sound h4 hs) (compArg_sound h5 hs) rfl rfl hv
      simpa [execOp, hop] using Does.of this
  case slice t x lo hi mx =>
    exfalso
    cases hd : P.underlying t with
    | none => rw [hd] at hc; cases hc
    | some d =>
      rw [hd] at hc
      cases d <;> first | (cases hc; done) | skip
      · obtain ⟨_, _, hc⟩ := bind_some' hc
        obtain ⟨_, _, hc⟩ := bind_some' hc
        obtain ⟨_, _, hc⟩ := bind_some' hc
        cases mx <;> first | (cases hc; done) | skip
        cases hc; exact hcls rfl
      · obtain ⟨_, _, hc⟩ := bind_some' hc
        obtain ⟨_, _, hc⟩ := bind_some' hc
        obtain ⟨_, _, hc⟩ := bind_some' hc
        obtain ⟨_, _, hc⟩ := bind_some' hc
        obtain ⟨_, _, hc⟩ := bind_some' hc
        cases hc; exact hcls rfl
  case fieldAddr st x f =>
    exfalso
    cases hd : P.underlying st with
    | none => rw [hd] at hc; cases hc
    | some d =>
      rw [hd] at hc
      cases d <;> first | (cases hc; done) | skip
      obtain ⟨fl, h1, hc⟩ := bind_some' hc
      obtain ⟨i, h2, hc⟩ := bind_some' hc
      obtain ⟨h3, hc⟩ := bif_some hc
      obtain ⟨ax, h4, rfl⟩ := map_some' hc
      exact hcls rfl
  case field st x f =>
    exfalso
    cases hd : P.underlying st with
    | none => rw [hd] at hc; cases hc
    | some d =>
      rw [hd] at hc
      cases d <;> first | (cases hc; done) | skip
      obtain ⟨fl, h1, hc⟩ := bind_some' hc
      obtain ⟨k, h2, hc⟩ := bind_some' hc
      obtain ⟨ax, h4, rfl⟩ := map_some' hc
      exact hcls rfl
  case indexAddr t x i =>
    exfalso
    cases hd : P.underlying t with
    | none => rw [hd] at hc; cases hc
    | some d =>
      rw [hd] at hc
      cases d <;> first | (cases hc; done) | skip
      obtain ⟨k, h0, hc⟩ := bind_some' hc
      obtain ⟨ax, h1, hc⟩ := bind_some' hc
      obtain ⟨ay, h2, hc⟩ := bind_some' hc
      cases hc
      exact hcls rfl
  case index t x i =>
    exfalso
    cases hd : P.underlying t with
    | none => rw [hd] at hc; cases hc
    | some d =>
      rw [hd] at hc
      cases d <;> first | (cases hc; done) | skip
      obtain ⟨ax, h1, hc⟩ := bind_some' hc
      obtain ⟨ay, h2, hc⟩ := bind_some' hc
      cases hc
      exact hcls rfl
  case lookup t x k okk =>
    cases hd : P.underlying t with
    | none => rw [hd] at hc; cases hc
    | some d =>
      rw [hd] at hc
      cases d <;> first | (cases hc; done) | skip
      obtain ⟨kk, h1, hc⟩ := bind_some' hc
      obtain ⟨z, h2, hc⟩ := bind_some' hc
      obtain ⟨ax, h4, hc⟩ := bind_some' hc
      obtain ⟨ay, h5, hc⟩ := bind_some' hc
      cases hc
      obtain ⟨i, zv, hi, hz, hcz⟩ := zeroOf_spec h2
      have := lookup_does (P := P) (w := w) ok hd h1 hi hz (constOf_sound hcz) (compArg_sound h4 hs) (compArg_sound h5 hs) rfl rfl hv
      simpa [execOp, hop] using Does.ofSame ok this
  case mapUpdate t m k x =>
    cases hd : P.underlying t with
    | none => rw [hd] at hc; cases hc
    | some d =>
      rw [hd] at hc
      cases d <;> first | (cases hc; done) | skip
      obtain ⟨kk, h1, hc⟩ := bind_some' hc
      obtain ⟨am, h2, hc⟩ := bind_some' hc
      obtain ⟨ax, h4, hc⟩ := bind_some' hc
      obtain ⟨ay, h5, hc⟩ := bind_some' hc
      cases hc
      have := mapupd_does (P := P) (w := w) ok hd h1 (compArg_sound h2 hs) (compArg_sound h4 hs) (compArg_sound h5 hs) rfl rfl rfl hv
      simpa [execOp, hop] using Does.ofUnit this
  case insert t m k x =>
    cases hd : P.underlying t with
    | none => rw [hd] at hc; cases hc
    | some d =>
      rw [hd] at hc
      cases d <;> first | (cases hc; done) | skip
      obtain ⟨kk, h1, hc⟩ := bind_some' hc
      obtain ⟨am, h2, hc⟩ := bind_some' hc
      obtain ⟨ax, h4, hc⟩ := bind_some' hc
      obtain ⟨ay, h5, hc⟩ := bind_some' hc
      cases hc
      have := mapupd_does (P := P) (w := w) ok hd h1 (compArg_sound h2 hs) (compArg_sound h4 hs) (compArg_sound h5 hs) rfl rfl rfl hv
      simpa [execOp, hop] using Does.ofUnit this
  case extract x i => obtain ⟨ar, h1, rfl⟩ := map_some' hc; exact absurd rfl hcls
  case call c =>
    cases hcal : c.callee with
    | invoke r n => rw [hcal] at hc; cases hc
    | value f =>
      rw [hcal] at hc
      exfalso
      cases f with
      | func g =>
        simp only at hc
        cases hf : P.funcs[g]? with
        | none => rw [hf] at hc; cases hc
        | some fn =>
          rw [hf] at hc
          obtain ⟨h1, hc⟩ := bif_some hc
          obtain ⟨as, _, rfl⟩ := map_some' hc
          cases hnc
      | tmp t =>
        obtain ⟨h1, hc⟩ := bif_some hc
        obtain ⟨_, _, hc⟩ := bind_some' hc
        obtain ⟨as, _, rfl⟩ := map_some' hc
        cases hnc
      | const v =>
        obtain ⟨h1, hc⟩ := bif_some hc
        obtain ⟨_, _, hc⟩ := bind_some' hc
        obtain ⟨as, _, rfl⟩ := map_some' hc
        cases hnc
      | global g =>
        obtain ⟨h1, hc⟩ := bif_some hc
        obtain ⟨_, _, hc⟩ := bind_some' hc
        obtain ⟨as, _, rfl⟩ := map_some' hc
        cases hnc
    | builtin bi =>
      rw [hcal] at hc
      simp only at hc
      have hexec : ∀ (s : Sem Value), (∀ cs, builtin bi c.argTypes o.type cs (c.args.map a.eval) = (do pure (.value (← s)))) → Does P ρ I h (do pure (.value (← s))) v h' w → Does P ρ I h (execOp a.eval o) v h' w := by
        intro s e hd
        obtain ⟨ρ', I', w', cv, h1, h2, h3⟩ := hd
        refine ⟨ρ', I', w', cv, ?_, h2, h3⟩
        have : execOp a.eval o = (do let d ← resolve a.eval c o.type; invoke d.target d.args) := by simp only [execOp, hop]
        rw [this]
        simp only [resolve, hcal, invoke, Sem.run_bind, Sem.run_pure, Result.andThen_ok, e]
        simpa using h1
      have hargs : ∀ l : List Operand, c.args.toList = l → c.args.map a.eval = (l.map a.eval).toArray := by
        intro l e
        apply Array.toList_inj.1
        rw [Array.toList_map, e]
      have htys : ∀ l : List TypeId, c.argTypes.toList = l → c.argTypes = l.toArray := by
        intro l e
        apply Array.toList_inj.1
        rw [e]
      unfold compBuiltin at hc
      split at hc
      · obtain ⟨x, t, ax, e1, e2, h1, h2, rfl⟩ := compLen_spec hc
        refine hexec _ (fun _ => rfl) ?_
        rw [hargs _ e1, htys _ e2]
        exact Does.ofSame ok (len_does h1 ok (compArg_sound h2 hs) rfl hv)
      · obtain ⟨x, y, t, u, e, e', k, b, z, ax, ay, e1, e2, h1, h2, h3, h4, h5, h6, h7, h8, rfl⟩ := compAppend_spec hc
        refine hexec _ (fun _ => rfl) ?_
        rw [hargs _ e1, htys _ e2]
        obtain ⟨d, i, _, hi, _, hsz, hpos, _⟩ := ekOf_spec h3
        obtain ⟨i', zv, hi', hz, hcz⟩ := zeroOf_spec h5
        rw [hi] at hi'; cases hi'
        have hb : b = i.bytes := by simp [bytesOf, hi] at h4; exact h4.symm
        subst hb
        obtain ⟨g1, g2, _⟩ := constOf_cells (ρ := ρ) (I := I) (hp := w.heap) hcz
        have hzs : zv.cells.size = k.size := by
          have := RVs_length _ _ g1
          rw [Array.length_toList] at this
          omega
        exact Does.of (append_does ok hnext (sliceElem_spec h1) (sliceElem_spec h2) hi hz hsz hzs hpos (compArg_sound h7 hs) (compArg_sound h8 hs) hv)
      · obtain ⟨x, y, t, u, e, e', k, ax, ay, e1, e2, h1, h2, h3, h7, h8, rfl⟩ := compCopy_spec hc
        refine hexec _ (fun _ => rfl) ?_
        rw [hargs _ e1, htys _ e2]
        obtain ⟨d, i, _, hi, _, hsz, hpos, _⟩ := ekOf_spec h3
        obtain ⟨w', cv, r1, r2, r3⟩ := copy_does (P := P) (t := t) (u := u) (rt := o.type) (e' := e') ok (sliceElem_spec h1) hi hsz (compArg_sound h7 hs) (compArg_sound h8 hs) hv
        exact Does.of ⟨ρ, I, w', cv, r1, r2, r3⟩
      · obtain ⟨x, t, e, k, z, ax, e1, e2, h1, h3, h5, h7, rfl⟩ := compClear_spec hc
        refine hexec _ (fun _ => rfl) ?_
        rw [hargs _ e1, htys _ e2]
        obtain ⟨d, i, _, hi, _, hsz, hpos, _⟩ := ekOf_spec h3
        obtain ⟨i', zv, hi', hz, hcz⟩ := zeroOf_spec h5
        rw [hi] at hi'; cases hi'
        obtain ⟨g1, g2, _⟩ := constOf_cells (ρ := ρ) (I := I) (hp := w.heap) hcz
        obtain ⟨w', cv, r1, r2, r3⟩ := clear_does (P := P) (t := t) (rt := o.type) ok (sliceElem_spec h1) hi hz hsz hpos g1 g2 (compArg_sound h7 hs) hv
        exact Does.of ⟨ρ, I, w', cv, r1, r2, r3⟩
      · obtain ⟨x, k, t, u, kt, kk, ax, ay, e1, e2, h1, h2, h7, h8, rfl⟩ := compDelete_spec hc
        refine hexec _ (fun _ => rfl) ?_
        rw [hargs _ e1, htys _ e2]
        obtain ⟨et, hd⟩ := mapKey_spec h1
        obtain ⟨rfl, w', r1, r2⟩ := delete_does (P := P) (u := u) (rt := o.type) ok hd h2 (compArg_sound h7 hs) (compArg_sound h8 hs) rfl rfl hv
        exact Does.of ⟨ρ, I, w', _, r1, ⟨#[], rfl, rfl⟩, r2⟩
      · obtain ⟨_, hc⟩ := bif_some hc
        obtain ⟨ars, h1, rfl⟩ := map_some' hc
        exact absurd rfl hcls
      · obtain ⟨_, hc⟩ := bif_some hc
        obtain ⟨ars, h1, rfl⟩ := map_some' hc
        exact absurd rfl hcls
      · cases hc
end
end Go.Ai
