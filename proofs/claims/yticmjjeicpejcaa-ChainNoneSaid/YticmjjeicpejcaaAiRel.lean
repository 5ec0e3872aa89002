/-
  How the abstract interpreter's values and objects stand for the model's, and what a step keeps.
-/
import Derived.Test.YticmjjeicpejcaaAiDef
import Derived.Laws.Sem
import Derived.Laws.World
import Derived.Laws.Cells
namespace Go.Ai

abbrev Rho := Nat → Option (Nat × Nat)
abbrev Hp := Array Obj

def Lies (hp : Hp) (b off : Nat) (vs : List Value) : Prop :=
  ∃ c E fz, hp[b]? = some (Obj.cells c E fz) ∧ ∀ j v, vs[j]? = some v → c[off + j]? = some v ∧ v.oneCell' = true

def vflat : List Value → List Value
  | [] => []
  | v :: vs => v.cells.toList ++ vflat vs

def allCells (l : List Value) : Prop := ∀ v ∈ l, v.oneCell' = true

mutual
/-- The abstract value stands for the value: ρ places the mutable objects, I are the blocks that nobody writes any more. -/
def RV (ρ : Rho) (I : Nat → Prop) (hp : Hp) : AV → Value → Prop
  | .undef, _ => True
  | .bool b, v => v = .bool b
  | .int k n, v => v = .int k n
  | .str s, v => ∃ x, v = .string x ∧ x.data.toList = s
  | .nilptr, v => v = .pointer none
  | .ptr id off, v => ∃ b o, ρ id = some (b, o) ∧ v = .pointer (some ⟨b, o + off, none⟩)
  | .iptr cs, v => ∃ b o vs, v = .pointer (some ⟨b, o, none⟩) ∧ I b ∧ Lies hp b o vs ∧ RVs ρ I hp cs vs
  | .empt n, v => ∃ A, v = .slice A 0 0 ∧ (n = true → A = none)
  | .list es, v => ∃ A cap, v = .slice A es.length cap ∧ es.length ≤ cap ∧
      (es = [] ∨ ∃ b o vs n, A = some ⟨b, o, none⟩ ∧ I b ∧ Lies hp b o (vflat vs) ∧ RVs ρ I hp es vs ∧ ∀ v ∈ vs, v.cells.size = n)
  | .sref id off len cap e, v => ∃ b o c, ρ id = some (b, o) ∧ v = .slice (some ⟨b, o + off, none⟩) len c ∧ len ≤ cap ∧ cap ≤ c ∧
      ∃ cc E fz, hp[b]? = some (Obj.cells cc E fz) ∧ o + off + c * e.size ≤ cc.size
  | .nilmap, v => v = .map none
  | .mref id, v => ∃ b, ρ id = some (b, 0) ∧ v = .map (some b)
  | .imap ks vs, v => ∃ r ents clock, v = .map (some r) ∧ I r ∧ hp[r]? = some (Obj.map ents clock) ∧
      RVs ρ I hp ks (ents.toList.map (·.key)) ∧ RVs ρ I hp vs (ents.toList.map (·.val))
  | .nilfunc, v => v = .nilFunc
  | .func f caps, v => ∃ cap, v = .func (.func f) #[] cap ∧ RVs ρ I hp caps cap.toList
  | .agg cs, v => ∃ arr, v = .agg arr ∧ RVs ρ I hp cs arr.toList ∧ allCells arr.toList
  | .tup cs, v => ∃ arr, v = .tuple arr ∧ RVs ρ I hp cs arr.toList
def RVs (ρ : Rho) (I : Nat → Prop) (hp : Hp) : List AV → List Value → Prop
  | [], vs => vs = []
  | c :: cs, vs => ∃ v vs', vs = v :: vs' ∧ RV ρ I hp c v ∧ RVs ρ I hp cs vs'
end

/-- Blocks of cells stay so, of the same size. -/
def ShapeLe (hp hp' : Hp) : Prop :=
  ∀ (b : Nat) (c : Array Value) (E : TypeId) (fz : Nat × Nat), hp[b]? = some (Obj.cells c E fz) → ∃ (c' : Array Value) (fz' : Nat × Nat), hp'[b]? = some (Obj.cells c' E fz') ∧ c'.size = c.size

theorem Lies.mono {hp hp' : Hp} {b o : Nat} {vs : List Value} (h : Lies hp b o vs) (hw : hp'[b]? = hp[b]?) : Lies hp' b o vs := by
  obtain ⟨c, E, fz, h1, h2⟩ := h
  exact ⟨c, E, fz, hw.trans h1, h2⟩

section
variable {ρ ρ' : Rho} {I I' : Nat → Prop} {hp hp' : Hp}

mutual
theorem RV_mono (hρ : ∀ id p, ρ id = some p → ρ' id = some p) (hI : ∀ b, I b → I' b) (hw : ∀ b, I b → hp'[b]? = hp[b]?) (hs : ShapeLe hp hp') :
    ∀ (a : AV) (v : Value), RV ρ I hp a v → RV ρ' I' hp' a v
  | .undef, _, _ => by simp [RV]
  | .bool _, _, h => by simpa [RV] using h
  | .int _ _, _, h => by simpa [RV] using h
  | .str _, _, h => by simpa [RV] using h
  | .nilptr, _, h => by simpa [RV] using h
  | .ptr id off, _, h => by
    simp only [RV] at h ⊢
    obtain ⟨b, o, h1, h2⟩ := h
    exact ⟨b, o, hρ _ _ h1, h2⟩
  | .iptr cs, _, h => by
    simp only [RV] at h ⊢
    obtain ⟨b, o, vs, h1, h2, h3, h4⟩ := h
    exact ⟨b, o, vs, h1, hI _ h2, h3.mono (hw _ h2), RVs_mono hρ hI hw hs cs vs h4⟩
  | .empt _, _, h => by simpa [RV] using h
  | .list es, _, h => by
    simp only [RV] at h ⊢
    obtain ⟨A, cap, h1, h2, h3⟩ := h
    refine ⟨A, cap, h1, h2, ?_⟩
    rcases h3 with h3 | ⟨b, o, vs, n, e1, e2, e3, e4, e5⟩
    · exact .inl h3
    · exact .inr ⟨b, o, vs, n, e1, hI _ e2, e3.mono (hw _ e2), RVs_mono hρ hI hw hs es vs e4, e5⟩
  | .sref id off len cap e, _, h => by
    simp only [RV] at h ⊢
    obtain ⟨b, o, c, h1, h2, h3, h4, cc, E, fz, h5, h6⟩ := h
    obtain ⟨c', fz', h7, h8⟩ := hs _ _ _ _ h5
    exact ⟨b, o, c, hρ _ _ h1, h2, h3, h4, c', E, fz', h7, by omega⟩
  | .nilmap, _, h => by simpa [RV] using h
  | .mref id, _, h => by
    simp only [RV] at h ⊢
    obtain ⟨b, h1, h2⟩ := h
    exact ⟨b, hρ _ _ h1, h2⟩
  | .imap ks vs, _, h => by
    simp only [RV] at h ⊢
    obtain ⟨r, ents, clock, h1, h2, h3, h4, h5⟩ := h
    exact ⟨r, ents, clock, h1, hI _ h2, (hw _ h2).trans h3, RVs_mono hρ hI hw hs ks _ h4, RVs_mono hρ hI hw hs vs _ h5⟩
  | .nilfunc, _, h => by simpa [RV] using h
  | .func f caps, _, h => by
    simp only [RV] at h ⊢
    obtain ⟨cap, h1, h2⟩ := h
    exact ⟨cap, h1, RVs_mono hρ hI hw hs caps _ h2⟩
  | .agg cs, _, h => by
    simp only [RV] at h ⊢
    obtain ⟨arr, h1, h2, h3⟩ := h
    exact ⟨arr, h1, RVs_mono hρ hI hw hs cs _ h2, h3⟩
  | .tup cs, _, h => by
    simp only [RV] at h ⊢
    obtain ⟨arr, h1, h2⟩ := h
    exact ⟨arr, h1, RVs_mono hρ hI hw hs cs _ h2⟩
theorem RVs_mono (hρ : ∀ id p, ρ id = some p → ρ' id = some p) (hI : ∀ b, I b → I' b) (hw : ∀ b, I b → hp'[b]? = hp[b]?) (hs : ShapeLe hp hp') :
    ∀ (a : List AV) (v : List Value), RVs ρ I hp a v → RVs ρ' I' hp' a v
  | [], _, h => by simpa [RVs] using h
  | c :: cs, _, h => by
    simp only [RVs] at h ⊢
    obtain ⟨v, vs', h1, h2, h3⟩ := h
    exact ⟨v, vs', h1, RV_mono hρ hI hw hs c v h2, RVs_mono hρ hI hw hs cs vs' h3⟩
end

/-! ### Lists of values -/
theorem RVs_length : ∀ (cs : List AV) (vs : List Value), RVs ρ I hp cs vs → vs.length = cs.length
  | [], vs, h => by simp only [RVs] at h; simp [h]
  | c :: cs, vs, h => by
    simp only [RVs] at h
    obtain ⟨v, vs', rfl, _, h3⟩ := h
    simp [RVs_length cs vs' h3]

theorem RVs_get : ∀ (cs : List AV) (vs : List Value), RVs ρ I hp cs vs → ∀ (i : Nat) (c : AV), cs[i]? = some c → ∃ v, vs[i]? = some v ∧ RV ρ I hp c v
  | [], vs, _, i, c, hc => by simp at hc
  | c :: cs, vs, h, i, x, hc => by
    simp only [RVs] at h
    obtain ⟨v, vs', rfl, h2, h3⟩ := h
    cases i with
    | zero => simp at hc; subst hc; exact ⟨v, by simp, h2⟩
    | succ i => simp at hc ⊢; exact RVs_get cs vs' h3 i x hc

theorem RVs_of_get : ∀ (cs : List AV) (vs : List Value), vs.length = cs.length → (∀ (i : Nat) (c : AV) (v : Value), cs[i]? = some c → vs[i]? = some v → RV ρ I hp c v) → RVs ρ I hp cs vs
  | [], vs, h, _ => by simp only [RVs]; simpa using h
  | c :: cs, [], h, _ => by simp at h
  | c :: cs, v :: vs, h, H => by
    simp only [RVs]
    exact ⟨v, vs, rfl, H 0 c v (by simp) (by simp), RVs_of_get cs vs (by simpa using h) (fun i x y hx hy => H (i + 1) x y (by simpa using hx) (by simpa using hy))⟩

theorem RVs_iff {cs : List AV} {vs : List Value} : RVs ρ I hp cs vs ↔ vs.length = cs.length ∧ ∀ (i : Nat) (c : AV) (v : Value), cs[i]? = some c → vs[i]? = some v → RV ρ I hp c v := by
  constructor
  · intro h
    refine ⟨RVs_length _ _ h, fun i c v hc hv => ?_⟩
    obtain ⟨v', h1, h2⟩ := RVs_get _ _ h i c hc
    rw [hv] at h1
    cases h1
    exact h2
  · exact fun h => RVs_of_get _ _ h.1 h.2

theorem RVs_append {cs ds : List AV} {vs us : List Value} (h : RVs ρ I hp cs vs) (g : RVs ρ I hp ds us) : RVs ρ I hp (cs ++ ds) (vs ++ us) := by
  induction cs generalizing vs with
  | nil => simp only [RVs] at h; subst h; simpa using g
  | cons c cs ih =>
    simp only [RVs] at h
    obtain ⟨v, vs', rfl, h2, h3⟩ := h
    simp only [List.cons_append, RVs]
    exact ⟨v, vs' ++ us, by simp, h2, ih h3⟩

theorem RVs_take {cs : List AV} {vs : List Value} (h : RVs ρ I hp cs vs) (n : Nat) : RVs ρ I hp (cs.take n) (vs.take n) := by
  rw [RVs_iff] at h ⊢
  refine ⟨by simp [h.1], fun i c v hc hv => ?_⟩
  rw [List.getElem?_take] at hc hv
  split at hc
  · exact h.2 i c v hc (by simpa [*] using hv)
  · simp at hc

theorem RVs_drop {cs : List AV} {vs : List Value} (h : RVs ρ I hp cs vs) (n : Nat) : RVs ρ I hp (cs.drop n) (vs.drop n) := by
  rw [RVs_iff] at h ⊢
  refine ⟨by simp [h.1], fun i c v hc hv => ?_⟩
  rw [List.getElem?_drop] at hc hv
  exact h.2 _ c v hc hv

theorem RVs_set {cs : List AV} {vs : List Value} (h : RVs ρ I hp cs vs) {x : AV} {y : Value} (g : RV ρ I hp x y) (n : Nat) : RVs ρ I hp (cs.set n x) (vs.set n y) := by
  rw [RVs_iff] at h ⊢
  refine ⟨by simp [h.1], fun i c v hc hv => ?_⟩
  rw [List.getElem?_set] at hc hv
  by_cases hn : n = i
  · subst hn
    simp only [if_true] at hc hv
    split at hc
    · simp only [Option.some.injEq] at hc
      subst hc
      split at hv
      · simp only [Option.some.injEq] at hv; subst hv; exact g
      · simp at hv
    · simp at hc
  · simp only [hn, if_false] at hc hv
    exact h.2 i c v hc hv

theorem RVs_eraseIdx {cs : List AV} {vs : List Value} (h : RVs ρ I hp cs vs) (n : Nat) : RVs ρ I hp (cs.eraseIdx n) (vs.eraseIdx n) := by
  rw [List.eraseIdx_eq_take_drop_succ, List.eraseIdx_eq_take_drop_succ]
  exact RVs_append (RVs_take h n) (RVs_drop h (n + 1))

theorem RVs_cells {c : AV} {v : Value} (h : RV ρ I hp c v) (hc : ∀ cs, c ≠ .agg cs → True) (hu : c ≠ .undef) : RVs ρ I hp c.cells v.cells.toList := by
  cases c with
  | undef => exact absurd rfl hu
  | agg cs =>
    simp only [RV] at h
    obtain ⟨arr, rfl, h2, _⟩ := h
    simpa [AV.cells, Value.cells] using h2
  | _ =>
    have hcell : v.cells = #[v] := by
      simp only [RV] at h
      first
        | (subst h; rfl)
        | (obtain ⟨_, rfl, _⟩ := h; rfl)
        | (obtain ⟨_, _, rfl, _⟩ := h; rfl)
        | (obtain ⟨_, _, _, rfl, _⟩ := h; rfl)
        | (obtain ⟨_, _, rfl⟩ := h; rfl)
        | (obtain ⟨_, _, _, rfl⟩ := h; rfl)
        | (obtain ⟨_, _, _, _, rfl, _⟩ := h; rfl)
    rw [hcell]
    simp only [AV.cells, RVs]
    exact ⟨v, [], by simp, h, rfl⟩
end
end Go.Ai
