/-
  Regions in the order of the text.
-/
import Derived.Test.YticmjjeicpejcaaAiCode
set_option linter.unusedVariables false
set_option linter.unusedSimpArgs false
namespace Go.Ai

/-- Where a piece of code comes to. -/
def Reach (ρ : Rho) (I : Nat → Prop) (h : AH) (w : World) (st' : AS) (a' : Act) (w' : World) : Prop :=
  ∃ ρ' I', Slots ρ' I' w'.heap st'.sl a' ∧ a'.defers = [] ∧ Ext ρ I h w.heap ρ' I' st'.h w'.heap ∧ Quiet w w'

section
variable {ρ : Rho} {I : Nat → Prop} {P : Program} {h h' : AH} {w : World} {sl : List AV} {a : Act} {hp : Hp}

theorem Reach.after {ρ' : Rho} {I' : Nat → Prop} {w1 : World} {st' : AS} {a' : Act} {w' : World} (he : Ext ρ I h w.heap ρ' I' h' w1.heap) (hq : Quiet w w1) (hr : Reach ρ' I' h' w1 st' a' w') : Reach ρ I h w st' a' w' := by
  obtain ⟨ρ2, I2, h1, h2, h3, h4⟩ := hr
  exact ⟨ρ2, I2, h1, h2, he.trans h3, hq.trans h4⟩

theorem undef_not_bool {b : Bool} : undef ≠ Value.bool b := by
  intro h
  cases h

theorem guard_sound {ops : Array Oper} {o : Oper} {g : Option (Nat × Bool)} {t : Bool}
    (hg : (match o.guard with | none => some none | some (j, want) => ((ops[j]?).bind (·.dst)).map fun d => some (d, want)) = some g) (hs : Slots ρ I hp sl a) (ht : guarded sl g = some t) :
    Region.wanted o (yielded ops a.tmps) = t := by
  unfold Region.wanted
  cases hgu : o.guard with
  | none =>
    rw [hgu] at hg
    cases hg
    cases ht
    rfl
  | some jw =>
    obtain ⟨j, want⟩ := jw
    rw [hgu] at hg
    simp only at hg ⊢
    obtain ⟨d, hd, rfl⟩ := map_some' hg
    unfold guarded at ht
    simp only at ht
    split at ht
    · rename_i b hb
      cases ht
      have := hs.2 d
      rw [hb] at this
      have hv : a.tmps.getD d undef = .bool b := this
      have hget : a.tmps[d]? = some (.bool b) := by
        rw [Array.getD_eq_getD_getElem?] at hv
        cases hx : a.tmps[d]? with
        | none => rw [hx] at hv; exact absurd hv undef_not_bool
        | some x => rw [hx] at hv; simp at hv; rw [hv]
      simp [yielded, hd, hget]
    · cases ht

theorem compOper_spec {hint : Hints} {ops : Array Oper} {o : Oper} {x : Option Nat × Option (Nat × Bool) × AOp} (h : compOper P hint ops o = some x) :
    (match o.guard with | none => some none | some (j, want) => ((ops[j]?).bind (·.dst)).map fun d => some (d, want)) = some x.2.1 ∧ compOp P hint o = some x.2.2 ∧ x.1 = o.dst := by
  unfold compOper at h
  obtain ⟨g, h1, h⟩ := bind_some' h
  obtain ⟨ao, h2, rfl⟩ := map_some' h
  exact ⟨h1, h2, rfl⟩

theorem execOps_abs {call : CallFn} (hcall : CallOk P call) : ∀ {l : List (Option Nat × Option (Nat × Bool) × AOp)} {st st' : AS}, execOps call l st = some st' → Abs st.h st'.h
  | [], st, st', h => by cases h; exact .refl _
  | (d, g, o) :: l, st, st', h => by
    simp only [execOps] at h
    obtain ⟨t, _, h⟩ := bind_some' h
    rcases bif_cases h with ⟨_, h⟩ | ⟨_, h⟩
    · obtain ⟨r, h1, h⟩ := bind_some' h
      have e1 := (evalOp_keeps hcall (v := r.1) (h' := r.2) h1).1
      have e2 := execOps_abs hcall h
      exact e1.trans e2
    · exact execOps_abs hcall (st := ⟨putSlot st.sl d .undef, st.h⟩) h

theorem execOps_next {call : CallFn} (hcall : CallOk P call) {l : List (Option Nat × Option (Nat × Bool) × AOp)} {st st' : AS} (h : execOps call l st = some st') : st.h.next ≤ st'.h.next := (execOps_abs hcall h).next

theorem execOps_wp {call : CallFn} (hcall : CallOk P call) {hint : Hints} {ops : Array Oper} {Q : Exit → Act → World → Prop} : ∀ (rest : List Oper) (l : List (Option Nat × Option (Nat × Bool) × AOp)), compOpers P hint ops rest = some l →
    ∀ (i : Nat), (∀ j, rest[j]? = ops[i + j]?) → ∀ (st st' : AS) (a : Act) (w : World) (ρ : Rho) (I : Nat → Prop), execOps call l st = some st' → Ok ρ I st.h w.heap → (∀ id, st.h.next ≤ id → id < st'.h.next → ρ id = none) →
    Slots ρ I w.heap st.sl a → a.defers = [] → (∀ a' w', Reach ρ I st.h w st' a' w' → Q .normal a' w') → wpOps P ops Q (List.range' i rest.length) a w
  | [], l, hc, i, _, st, st', a, w, ρ, I, he, ok, hn, hs, hd, hQ => by
    cases hc
    cases he
    exact hQ a w ⟨ρ, I, hs, hd, .refl ok.rel ok.fresh, .refl _⟩
  | o :: rest, l, hc, i, hi, st, st', a, w, ρ, I, he, ok, hn, hs, hd, hQ => by
    simp only [compOpers] at hc
    obtain ⟨x, hx, hc⟩ := bind_some' hc
    obtain ⟨l', hl', hc⟩ := bind_some' hc
    cases hc
    obtain ⟨hg, hop, hdst⟩ := compOper_spec hx
    obtain ⟨d, g, ao⟩ := x
    simp only at hg hop hdst
    subst hdst
    simp only [execOps] at he
    obtain ⟨t, ht, he⟩ := bind_some' he
    have hw := guard_sound hg hs ht
    have h0 : ops[i]? = some o := by simpa using (hi 0).symm
    have hi' : ∀ j, rest[j]? = ops[(i + 1) + j]? := fun j => by
      have := hi (j + 1)
      rw [List.getElem?_cons_succ] at this
      rw [this]
      congr 1
      omega
    simp only [List.length_cons, List.range'_succ, wpOps, h0, hw]
    rcases bif_cases he with ⟨rfl, he⟩ | ⟨rfl, he⟩
    · obtain ⟨r, h1, he⟩ := bind_some' he
      obtain ⟨v, h'⟩ := r
      have hk := evalOp_keeps hcall h1
      have hnx : h'.next ≤ st'.h.next := execOps_next hcall he
      simp only [if_true]
      refine .inl (evalOp_wp hcall hop ok (fun id g1 g2 => hn id g1 (by omega)) hs h1 ?_)
      intro cv ρ' I' w' hv hext hquiet
      have hn1 : ∀ id, st.h.next ≤ id → id < h'.next → ρ id = none := fun id g1 g2 => hn id g1 (by omega)
      refine execOps_wp hcall rest l' hl' (i + 1) hi' ⟨putSlot st.sl o.dst v, h'⟩ st' (a.put o.dst cv) w' ρ' I' he (ok.next hext) (fun id g1 g2 => ?_) ((hs.next ok hext hn1).put o.dst hv) (by rw [put_defers]; exact hd)
        (fun a' w'' hr => hQ a' w'' (hr.after hext hquiet))
      have g1 : h'.next ≤ id := g1
      have hk1 := hk.1.next
      rw [hext.rho id (by omega)]
      exact hn id (by omega) g2
    · simp only [Bool.false_eq_true, if_false]
      exact execOps_wp hcall rest l' hl' (i + 1) hi' ⟨putSlot st.sl o.dst .undef, st.h⟩ st' (a.put o.dst undef) w ρ I he ok hn (hs.put o.dst trivial) (by rw [put_defers]; exact hd) hQ
end
end Go.Ai
