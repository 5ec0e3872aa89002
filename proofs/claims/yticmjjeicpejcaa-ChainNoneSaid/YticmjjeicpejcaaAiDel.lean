/-
  maps.DeleteFunc, as a contract.
-/
import Derived.Test.YticmjjeicpejcaaAiCtx
import Derived.Maps.RangeRun
set_option linter.unusedVariables false
set_option linter.unusedSimpArgs false
namespace Go.Ai

theorem ops_val {P : Program} {ops : Array Oper} {Q : Exit → Act → World → Prop} {i : Nat} {rest : List Nat} {a : Act} {w w' : World} {o : Oper} (ho : ops[i]? = some o) (hg : o.guard = none) {v : Value}
    (hr : (execOp a.eval o).run P w = .ok (.value v) w') (hk : wpOps P ops Q rest (a.put o.dst v) w') : wpOps P ops Q (i :: rest) a w := by
  have hw : Region.wanted o (yielded ops a.tmps) = true := by simp [Region.wanted, hg]
  simp only [wpOps, ho, hw, if_true]
  left
  unfold Oper.wp
  rw [hr]
  exact hk

theorem ops_call {P : Program} {ops : Array Oper} {Q : Exit → Act → World → Prop} {i : Nat} {rest : List Nat} {a : Act} {w : World} {o : Oper} (ho : ops[i]? = some o) (hg : o.guard = none) {f : FuncId} {args : Array Value}
    (hr : (execOp a.eval o).run P w = .ok (.enter f args) w) {R : Value → World → Prop} (hc : Calls P f args w fun e w' => ∃ v, e = .returned v ∧ R v w') (hk : ∀ v w', R v w' → wpOps P ops Q rest (a.put o.dst v) w') : wpOps P ops Q (i :: rest) a w := by
  have hw : Region.wanted o (yielded ops a.tmps) = true := by simp [Region.wanted, hg]
  simp only [wpOps, ho, hw, if_true]
  left
  unfold Oper.wp
  rw [hr]
  refine hc.mono ?_
  rintro e w' ⟨v, rfl, h⟩
  exact hk v w' h

/-! ### What is left of a list -/
def keepOf {α : Type} : List α → List Bool → List α
  | x :: xs, b :: bs => bif b then keepOf xs bs else x :: keepOf xs bs
  | _, _ => []

/-- The entries that are there when some have been looked at. -/
def esAt (Z : List (MapEntry × Bool)) (seen : Array Nat) : List MapEntry := (Z.filter fun p => !(p.2 && seen.contains p.1.born)).map (·.1)

theorem esAt_start (Z : List (MapEntry × Bool)) : esAt Z #[] = Z.map (·.1) := by
  unfold esAt
  congr 1
  rw [List.filter_eq_self]
  intro p _
  simp

theorem keepOf_zip {β : Type} (f : MapEntry → β) : ∀ (L : List MapEntry) (bs : List Bool), keepOf (L.map f) bs = (((L.zip bs).filter fun p => !p.2).map (·.1)).map f
  | [], bs => by cases bs <;> rfl
  | e :: L, [] => rfl
  | e :: L, b :: bs => by
    cases b
    · simp [keepOf, keepOf_zip f L bs]
    · simp [keepOf, keepOf_zip f L bs]

theorem esAt_end {Z : List (MapEntry × Bool)} {seen : Array Nat} (h : ∀ e ∈ esAt Z seen, seen.contains e.born = true) : esAt Z seen = (Z.filter fun p => !p.2).map (·.1) := by
  unfold esAt at h ⊢
  congr 1
  apply List.filter_congr
  intro p hp
  cases hb : p.2 with
  | false => simp
  | true =>
    have : seen.contains p.1.born = true := by
      cases hs : seen.contains p.1.born with
      | true => rfl
      | false =>
        have := h p.1 (List.mem_map.2 ⟨p, List.mem_filter.2 ⟨hp, by rw [hb, hs]; rfl⟩, rfl⟩)
        rw [hs] at this
        cases this
    rw [this]; rfl

theorem inj_nodup {α β : Type} {f : α → β} : ∀ {l : List α}, (l.map f).Nodup → ∀ {x y : α}, x ∈ l → y ∈ l → f x = f y → x = y
  | a :: l, hn, x, y, hx, hy, e => by
    simp only [List.map_cons, List.nodup_cons] at hn
    rcases List.mem_cons.1 hx with h1 | h1 <;> rcases List.mem_cons.1 hy with h2 | h2
    · rw [h1, h2]
    · exact absurd (by rw [← h1, e]; exact List.mem_map_of_mem h2) hn.1
    · exact absurd (by rw [← h2, ← e]; exact List.mem_map_of_mem h1) hn.1
    · exact inj_nodup hn.2 h1 h2 e

theorem esAt_stay {Z : List (MapEntry × Bool)} (hn : (Z.map fun p => p.1.born).Nodup) {seen : Array Nat} {e : MapEntry} (he : (e, false) ∈ Z) : esAt Z (seen.push e.born) = esAt Z seen := by
  unfold esAt
  congr 1
  apply List.filter_congr
  intro p hp
  by_cases hb : p.1.born = e.born
  · have : p = (e, false) := by
      have := inj_nodup hn hp he hb
      exact this
    subst this
    simp
  · have : (seen.push e.born).contains p.1.born = seen.contains p.1.born := by
      simp [hb]
    rw [this]

theorem esAt_strike {Z : List (MapEntry × Bool)} (hn : (Z.map fun p => p.1.born).Nodup) {seen : Array Nat} {e : MapEntry} (he : (e, true) ∈ Z) : esAt Z (seen.push e.born) = (esAt Z seen).filter fun x => !(x.born == e.born) := by
  unfold esAt
  rw [List.filter_map, List.filter_filter]
  congr 1
  apply List.filter_congr
  intro p hp
  by_cases hb : p.1.born = e.born
  · have : p = (e, true) := inj_nodup hn hp he hb
    subst this
    simp
  · simp [hb]
end Go.Ai
