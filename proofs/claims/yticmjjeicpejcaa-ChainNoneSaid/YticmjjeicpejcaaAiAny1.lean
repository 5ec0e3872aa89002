/-
  Regions whose order is left open: what holds when some of the operations have been carried out, whichever.
-/
import Derived.Test.YticmjjeicpejcaaAiFoot
set_option linter.unusedVariables false
set_option linter.unusedSimpArgs false
namespace Go.Ai


/-- An object that was there changes. -/
def Ch (tr : Nat → AS) (i id : Nat) : Prop := id < (tr i).h.next ∧ (tr (i + 1)).h.heap id ≠ (tr i).h.heap id

/-- What is known of the run in the order of the text. -/
structure Tr (l : List AX) (preds : List (List Nat)) (pairs : List (Nat × Nat)) (tr : Nat → AS) (vv : Nat → AV) (F : Nat → Nat → Prop) : Prop where
  ord : Ordered l preds pairs
  abs : ∀ i, i < l.length → Abs (tr i).h (tr (i + 1)).h
  fresh0 : ∀ id, (tr 0).h.next ≤ id → (tr 0).h.heap id = none
  lock0 : (tr 0).h.lock ≤ (tr 0).h.next
  len : ∀ k, k ≤ l.length → (tr k).sl.length = (tr 0).sl.length
  val : ∀ k, k ≤ l.length → ∀ x, (tr k).sl.getD x .undef = lastVal (tr 0).sl l vv (fun _ => true) x k
  sep : ∀ i j, i < j → j < l.length → i ∉ preds.getD j [] → (∀ id, Ch tr i id → ¬ F j id) ∧ ∀ id, Ch tr j id → ¬ F i id ∧ ¬ ((tr i).h.next ≤ id ∧ id < (tr (i + 1)).h.next)

section
variable {l : List AX} {preds : List (List Nat)} {pairs : List (Nat × Nat)} {tr : Nat → AS} {vv : Nat → AV} {F : Nat → Nat → Prop}

theorem Tr.absle (t : Tr l preds pairs tr vv F) : ∀ (n i : Nat), i + n ≤ l.length → Abs (tr i).h (tr (i + n)).h
  | 0, i, _ => .refl _
  | n + 1, i, h => (t.absle n i (by omega)).trans (by
      rw [show i + (n + 1) = (i + n) + 1 by omega]
      exact t.abs _ (by omega))
theorem Tr.abs' (t : Tr l preds pairs tr vv F) {i k : Nat} (h : i ≤ k) (hk : k ≤ l.length) : Abs (tr i).h (tr k).h := by
  have := t.absle (k - i) i (by omega)
  rwa [show i + (k - i) = k by omega] at this
theorem Tr.fresh (t : Tr l preds pairs tr vv F) {k : Nat} (hk : k ≤ l.length) : ∀ id, (tr k).h.next ≤ id → (tr k).h.heap id = none := (t.abs' (Nat.zero_le _) hk).fresh t.fresh0
theorem Tr.nextle (t : Tr l preds pairs tr vv F) {i k : Nat} (h : i ≤ k) (hk : k ≤ l.length) : (tr i).h.next ≤ (tr k).h.next := (t.abs' h hk).next

/-- What has changed was there, or is new. -/
theorem Tr.chg (t : Tr l preds pairs tr vv F) {i id : Nat} (hi : i < l.length) (h : (tr (i + 1)).h.heap id ≠ (tr i).h.heap id) : Ch tr i id ∨ ((tr i).h.next ≤ id ∧ id < (tr (i + 1)).h.next) := by
  by_cases h1 : id < (tr i).h.next
  · exact .inl ⟨h1, h⟩
  · right
    refine ⟨by omega, ?_⟩
    rcases Nat.lt_or_ge id (tr (i + 1)).h.next with g | g
    · exact g
    · exact absurd ((t.fresh (by omega) id g).trans (t.fresh (by omega) id (by omega)).symm) h

open Classical in
/-- An object, when some of the operations have been carried out. -/
noncomputable def HD (tr : Nat → AS) (D : Nat → Bool) (id : Nat) : Nat → Option AObj
  | 0 => (tr 0).h.heap id
  | k + 1 => if D k = true ∧ (tr (k + 1)).h.heap id ≠ (tr k).h.heap id then (tr (k + 1)).h.heap id else HD tr D id k

theorem HD_congr {D D' : Nat → Bool} {id : Nat} : ∀ (k : Nat), (∀ i, i < k → (tr (i + 1)).h.heap id ≠ (tr i).h.heap id → D i = D' i) → HD tr D id k = HD tr D' id k
  | 0, _ => rfl
  | k + 1, h => by
    simp only [HD]
    by_cases hx : (tr (k + 1)).h.heap id ≠ (tr k).h.heap id
    · rw [h k (by omega) hx, HD_congr k (fun i hi => h i (by omega))]
    · simp only [hx, and_false, if_false]
      exact HD_congr k (fun i hi => h i (by omega))

theorem HD_stop {D : Nat → Bool} {id : Nat} : ∀ (n k : Nat), (∀ i, k ≤ i → i < k + n → (tr (i + 1)).h.heap id ≠ (tr i).h.heap id → D i = false) → HD tr D id (k + n) = HD tr D id k
  | 0, k, _ => rfl
  | n + 1, k, h => by
    rw [show k + (n + 1) = (k + n) + 1 by omega]
    simp only [HD]
    rw [if_neg]
    · exact HD_stop n k (fun i h1 h2 => h i h1 (by omega))
    · rintro ⟨h2, h3⟩
      rw [h (k + n) (by omega) (by omega) h3] at h2
      cases h2

theorem HD_all {id : Nat} : ∀ k, HD tr (fun _ => true) id k = (tr k).h.heap id
  | 0 => rfl
  | k + 1 => by
    simp only [HD]
    by_cases hx : (tr (k + 1)).h.heap id = (tr k).h.heap id
    · rw [if_neg (fun h => h.2 hx), HD_all k, hx]
    · rw [if_pos ⟨rfl, hx⟩]

theorem HD_upto {D : Nat → Bool} {id j : Nat} (hj : j ≤ l.length) (h : ∀ i, i < l.length → (tr (i + 1)).h.heap id ≠ (tr i).h.heap id → (D i = true ↔ i < j)) : HD tr D id l.length = (tr j).h.heap id := by
  have h1 : HD tr D id l.length = HD tr (fun i => decide (i < j)) id l.length := HD_congr _ (fun i hi hc => by
    have := h i hi hc
    cases hD : D i with
    | true => simp [this.1 hD]
    | false =>
      have : ¬ i < j := fun g => by rw [this.2 g] at hD; cases hD
      simp [this])
  rw [h1]
  have h2 := HD_stop (tr := tr) (D := fun i => decide (i < j)) (id := id) (l.length - j) j (fun i g1 _ _ => by simp; omega)
  rw [show j + (l.length - j) = l.length by omega] at h2
  rw [h2, HD_congr (D' := fun _ => true) j (fun i hi _ => by simp [hi]), HD_all]

structure InvAt (l : List AX) (tr : Nat → AS) (vv : Nat → AV) (ρ : Rho) (I : Nat → Prop) (hp0 : Hp) (D : Nat → Bool) (ρD : Rho) (ID : Nat → Prop) (a : Act) (hp : Hp) : Prop where
  size : a.tmps.size = (tr 0).sl.length
  defers : a.defers = []
  slot : ∀ x, RV ρD ID hp (lastVal (tr 0).sl l vv D x l.length) (a.tmps.getD x undef)
  rel : Rel ρD ID (fun id => HD tr D id l.length) hp
  dom : ∀ id, (tr 0).h.next ≤ id → id < (tr l.length).h.next → ρD id ≠ none → ∃ i, i < l.length ∧ D i = true ∧ (tr i).h.next ≤ id ∧ id < (tr (i + 1)).h.next
  out : ∀ id, ¬ ((tr 0).h.next ≤ id ∧ id < (tr l.length).h.next) → ρD id = ρ id
  imm : ∀ b, I b → ID b
  own : ∀ b, b < hp0.size → ID b → I b ∨ Own ρ (tr 0).h b
  ownρ : ∀ id b o, (tr 0).h.next ≤ id → id < (tr l.length).h.next → ρD id = some (b, o) → b < hp0.size → Own ρ (tr 0).h b
  hsize : hp0.size ≤ hp.size
  frame : ∀ b, b < hp0.size → ¬ Own ρ (tr 0).h b → hp[b]? = hp0[b]?
  shape : ShapeLe hp0 hp

def withD (D : Nat → Bool) (j : Nat) : Nat → Bool := fun i => if i = j then true else D i

structure Can (l : List AX) (preds : List (List Nat)) (D : Nat → Bool) (j : Nat) (x : AX) : Prop where
  get : l[j]? = some x
  not : D j = false
  ready : ∀ i ∈ preds.getD j [], D i = true
  closed : ∀ i, D i = true → i < l.length ∧ ∀ q ∈ preds.getD i [], D q = true

theorem Can.lt {D : Nat → Bool} {j : Nat} {x : AX} (c : Can l preds D j x) : j < l.length := by
  rcases Nat.lt_or_ge j l.length with g | g
  · exact g
  · have := c.get; rw [List.getElem?_eq_none g] at this; cases this

/-- Of two that are carried out in the other order than the text's, or of which one is still out: no edge orders them. -/
theorem Can.freeL {D : Nat → Bool} {j : Nat} {x : AX} (c : Can l preds D j x) {i : Nat} (hD : D i = false) : i ∉ preds.getD j [] := fun hm => by rw [c.ready i hm] at hD; cases hD
theorem Can.freeR {D : Nat → Bool} {j : Nat} {x : AX} (c : Can l preds D j x) {i : Nat} (hD : D i = true) : j ∉ preds.getD i [] := fun hm => by
  have := (c.closed i hD).2 j hm
  rw [c.not] at this
  cases this
theorem Can.apartL {D : Nat → Bool} {j : Nat} {x : AX} (t : Ordered l preds pairs) (c : Can l preds D j x) {i : Nat} {y : AX} (hy : l[i]? = some y) (hij : i < j) (hD : D i = false) : apartS y x = true :=
  (t.apart i j y x hij hy c.get (c.freeL hD)).1
theorem Can.apartR {D : Nat → Bool} {j : Nat} {x : AX} (t : Ordered l preds pairs) (c : Can l preds D j x) {i : Nat} {y : AX} (hy : l[i]? = some y) (hij : j < i) (hD : D i = true) : apartS x y = true :=
  (t.apart j i x y hij c.get hy (c.freeR hD)).1

/-- What the operation reads is as it would be in the order of the text. -/
theorem Can.reads {D : Nat → Bool} {j : Nat} {x : AX} (t : Tr l preds pairs tr vv F) (c : Can l preds D j x) {y : Nat} (hy : y ∈ rd x) : (tr j).sl.getD y .undef = lastVal (tr 0).sl l vv D y l.length := by
  have hj := c.lt
  rw [t.val j (by omega) y]
  have h1 : lastVal (tr 0).sl l vv D y l.length = lastVal (tr 0).sl l vv (fun i => decide (i < j)) y l.length := by
    refine lastVal_congr _ (fun i hi hd => ?_)
    obtain ⟨z, hz⟩ : ∃ z, l[i]? = some z := ⟨_, List.getElem?_eq_getElem hi⟩
    rw [hz] at hd
    simp only [Option.bind_some] at hd
    rcases Nat.lt_trichotomy i j with h | h | h
    · simp only [h, decide_true]
      cases hD : D i with
      | true => rfl
      | false => exact absurd hy ((apartS_spec (c.apartL t.ord hz h hD)).1 y hd).1
    · subst h; simp [c.not]
    · have : ¬ i < j := by omega
      simp only [this, decide_false]
      cases hD : D i with
      | false => rfl
      | true => exact absurd hy ((apartS_spec (c.apartR t.ord hz h hD)).2 y hd)
  rw [h1]
  have h2 := lastVal_stop (sl := (tr 0).sl) (l := l) (vv := vv) (D := fun i => decide (i < j)) (x := y) (l.length - j) j (fun i g1 _ _ => by simp; omega)
  rw [show j + (l.length - j) = l.length by omega] at h2
  rw [h2]
  exact lastVal_congr _ (fun i hi _ => by simp [hi])

theorem lastVal_far {sl : List AV} {D : Nat → Bool} {x : Nat} (hx : ¬ x < sl.length) : ∀ k, lastVal sl l vv D x k = .undef
  | 0 => by simp only [lastVal]; rw [List.getD_eq_getElem?_getD, List.getElem?_eq_none (Nat.le_of_not_lt hx)]; rfl
  | k + 1 => by
    simp only [lastVal, hx, false_and, if_false]
    exact lastVal_far hx k

/-- The slots behind it. -/
theorem Can.slots {D : Nat → Bool} {j : Nat} {x : AX} (t : Tr l preds pairs tr vv F) (c : Can l preds D j x) {a : Act} {ρD : Rho} {ID : Nat → Prop} {hp : Hp} (hsz : a.tmps.size = (tr 0).sl.length)
    (hs : ∀ y, RV ρD ID hp (lastVal (tr 0).sl l vv D y l.length) (a.tmps.getD y undef)) {cv : Value} (hv : RV ρD ID hp (vv j) cv) :
    ∀ y, RV ρD ID hp (lastVal (tr 0).sl l vv (withD D j) y l.length) ((a.put x.1 cv).tmps.getD y undef) := by
  intro y
  have hj := c.lt
  by_cases hy : y < (tr 0).sl.length
  · by_cases hd : x.1 = some y
    · have h1 : lastVal (tr 0).sl l vv (withD D j) y l.length = vv j := by
        have h2 := lastVal_stop (sl := (tr 0).sl) (l := l) (vv := vv) (D := withD D j) (x := y) (l.length - (j + 1)) (j + 1) (fun i g1 g2 g3 => by
          obtain ⟨z, hz⟩ : ∃ z, l[i]? = some z := ⟨_, List.getElem?_eq_getElem (by omega)⟩
          rw [hz] at g3
          simp only [Option.bind_some] at g3
          simp only [withD]
          rw [if_neg (by omega)]
          cases hD : D i with
          | false => rfl
          | true => exact absurd g3 ((apartS_spec (c.apartR t.ord hz (by omega) hD)).1 y hd).2)
        rw [show j + 1 + (l.length - (j + 1)) = l.length by omega] at h2
        rw [h2]
        simp [lastVal, hy, withD, c.get, hd]
      rw [h1, hd]
      have hlt : y < a.tmps.size := by omega
      simp only [Act.put, Array.getD_eq_getD_getElem?]
      rw [Array.getElem?_setIfInBounds]
      simp [hlt, hv]
    · have h1 : lastVal (tr 0).sl l vv (withD D j) y l.length = lastVal (tr 0).sl l vv D y l.length := by
        refine lastVal_congr _ (fun i hi g => ?_)
        simp only [withD]
        split
        · subst_vars
          rw [c.get] at g
          exact absurd g hd
        · rfl
      rw [h1]
      have : (a.put x.1 cv).tmps.getD y undef = a.tmps.getD y undef := by
        cases hx : x.1 with
        | none => rfl
        | some d =>
          have hne : d ≠ y := fun e => hd (by rw [hx, e])
          simp [Act.put, Array.getD_eq_getD_getElem?, Array.getElem?_setIfInBounds, hne]
      rw [this]
      exact hs y
  · rw [lastVal_far hy]
    trivial

theorem put_size (a : Act) (d : Option Nat) (v : Value) : (a.put d v).tmps.size = a.tmps.size := by cases d <;> simp [Act.put]


/-- The objects that it looks at are as they would be in the order of the text. -/
theorem Can.before {ρ : Rho} {I : Nat → Prop} {hp0 : Hp} {D : Nat → Bool} {ρD : Rho} {ID : Nat → Prop} {a : Act} {hp : Hp} {j : Nat} {x : AX} (t : Tr l preds pairs tr vv F) (inv : InvAt l tr vv ρ I hp0 D ρD ID a hp) (c : Can l preds D j x)
    {id : Nat} (hρ : ρD id ≠ none) (hF : F j id) (hid : id < (tr j).h.next) : ∀ i, i < l.length → i ≠ j → (tr (i + 1)).h.heap id ≠ (tr i).h.heap id → (D i = true ↔ i < j) := by
  intro i hi hij hc
  have hj := c.lt
  rcases Nat.lt_or_ge i j with h | h
  · refine ⟨fun _ => h, fun _ => ?_⟩
    cases hD : D i with
    | true => rfl
    | false =>
      exfalso
      rcases t.chg hi hc with g | g
      · exact (t.sep i j h hj (c.freeL hD)).1 id g hF
      · have h0 := t.nextle (Nat.zero_le i) (by omega)
        have h1 := t.nextle (show i + 1 ≤ l.length by omega) (Nat.le_refl _)
        obtain ⟨i', e1, e2, e3, e4⟩ := inv.dom id (by omega) (by omega) hρ
        rcases Nat.lt_trichotomy i' i with k | k | k
        · have := t.nextle (show i' + 1 ≤ i by omega) (by omega)
          omega
        · subst k
          rw [hD] at e2
          cases e2
        · have := t.nextle (show i + 1 ≤ i' by omega) (by omega)
          omega
  · refine ⟨fun hD => ?_, fun g => by omega⟩
    exfalso
    rcases t.chg hi hc with g | g
    · exact ((t.sep j i (by omega) hi (c.freeR hD)).2 id g).1 hF
    · have := t.nextle h (by omega)
      omega

theorem withD_ne {D : Nat → Bool} {j i : Nat} (h : i ≠ j) : withD D j i = D i := by simp [withD, h]
theorem withD_eq {D : Nat → Bool} {j : Nat} : withD D j j = true := by simp [withD]

/-- An operation that changes nothing in memory. -/
theorem InvAt.stay {ρ : Rho} {I : Nat → Prop} {hp0 : Hp} {D : Nat → Bool} {ρD : Rho} {ID : Nat → Prop} {a : Act} {hp : Hp} {j : Nat} {x : AX} (t : Tr l preds pairs tr vv F) (inv : InvAt l tr vv ρ I hp0 D ρD ID a hp) (c : Can l preds D j x) (hW : (tr (j + 1)).h = (tr j).h) {cv : Value} (hv : RV ρD ID hp (vv j) cv) :
    InvAt l tr vv ρ I hp0 (withD D j) ρD ID (a.put x.1 cv) hp where
  size := by rw [put_size]; exact inv.size
  defers := by rw [put_defers]; exact inv.defers
  slot := c.slots t inv.size inv.slot hv
  rel := by
    have : (fun id => HD tr (withD D j) id l.length) = fun id => HD tr D id l.length := by
      funext id
      refine HD_congr _ (fun i hi hc => ?_)
      by_cases hij : i = j
      · subst hij
        exact absurd (by rw [hW]) hc
      · exact withD_ne hij
    rw [this]
    exact inv.rel
  dom := fun id h1 h2 h3 => by
    obtain ⟨i, g1, g2, g3⟩ := inv.dom id h1 h2 h3
    exact ⟨i, g1, by simp only [withD]; split <;> first | rfl | exact g2, g3⟩
  out := inv.out
  imm := inv.imm
  own := inv.own
  ownρ := inv.ownρ
  hsize := inv.hsize
  frame := inv.frame
  shape := inv.shape

/-- What it looks at, as it lies. -/
theorem Can.part {ρ : Rho} {I : Nat → Prop} {hp0 : Hp} {D : Nat → Bool} {ρD : Rho} {ID : Nat → Prop} {a : Act} {hp : Hp} {j : Nat} {x : AX} (t : Tr l preds pairs tr vv F) (inv : InvAt l tr vv ρ I hp0 D ρD ID a hp) (c : Can l preds D j x)
    {id : Nat} (hρ : ρD id ≠ none) (hl : ((tr j).h.only (F j) (tr j).h.next).heap id ≠ none) : F j id ∧ id < (tr j).h.next ∧ HD tr D id l.length = ((tr j).h.only (F j) (tr j).h.next).heap id := by
  have hj := c.lt
  by_cases hm : F j id ∨ (tr j).h.next ≤ id
  · have hlt : id < (tr j).h.next := by
      rcases Nat.lt_or_ge id (tr j).h.next with g | g
      · exact g
      · rw [only_heap hm, t.fresh (by omega) id g] at hl
        exact absurd rfl hl
    have hF : F j id := by
      rcases hm with h | h
      · exact h
      · omega
    refine ⟨hF, hlt, ?_⟩
    rw [only_heap hm]
    refine HD_upto (by omega) (fun i hi hc => ?_)
    by_cases hij : i = j
    · subst hij
      rw [c.not]
      simp
    · exact c.before t inv hρ hF hlt i hi hij hc
  · exact absurd (only_heap_not hm) hl

theorem Can.rel {ρ : Rho} {I : Nat → Prop} {hp0 : Hp} {D : Nat → Bool} {ρD : Rho} {ID : Nat → Prop} {a : Act} {hp : Hp} {j : Nat} {x : AX} (t : Tr l preds pairs tr vv F) (inv : InvAt l tr vv ρ I hp0 D ρD ID a hp) (c : Can l preds D j x) :
    Rel ρD ID ((tr j).h.only (F j) (tr j).h.next).heap hp where
  imm := inv.rel.imm
  apart := fun id b o h1 h2 => inv.rel.apart id b o h1 (by rw [(c.part t inv (by rw [h1]; simp) h2).2.2]; exact h2)
  obj := fun id b o ob h1 h2 => inv.rel.obj id b o ob h1 (by rw [(c.part t inv (by rw [h1]; simp) (by rw [h2]; simp)).2.2]; exact h2)
  inj := fun id id' b o o' h1 h2 h3 h4 => inv.rel.inj id id' b o o' h1 h2 (by rw [(c.part t inv (by rw [h1]; simp) h3).2.2]; exact h3) (by rw [(c.part t inv (by rw [h2]; simp) h4).2.2]; exact h4)

/-- One that looks at memory, or changes it. -/
theorem InvAt.move {ρ : Rho} {I : Nat → Prop} {hp0 : Hp} {D : Nat → Bool} {ρD ρ' : Rho} {ID I' : Nat → Prop} {a : Act} {hp hp' : Hp} {j : Nat} {x : AX} (t : Tr l preds pairs tr vv F) (inv : InvAt l tr vv ρ I hp0 D ρD ID a hp) (c : Can l preds D j x) (hwr : ∀ id, Ch tr j id → F j id)
    (he : Ext ρD ID ((tr j).h.only (F j) (tr j).h.next) hp ρ' I' ((tr (j + 1)).h.only (F j) (tr j).h.next) hp') (hpre : ∀ id, (tr j).h.next ≤ id → id < (tr (j + 1)).h.next → ρD id = none) {cv : Value} (hv : RV ρ' I' hp' (vv j) cv) :
    InvAt l tr vv ρ I hp0 (withD D j) ρ' I' (a.put x.1 cv) hp' := by
  have hj := c.lt
  have hrj := c.rel t inv
  have hn0 : (tr 0).h.next ≤ (tr j).h.next := t.nextle (Nat.zero_le _) (by omega)
  have hnm : (tr (j + 1)).h.next ≤ (tr l.length).h.next := t.nextle (by omega) (Nat.le_refl _)
  have hnj : (tr j).h.next ≤ (tr (j + 1)).h.next := (t.abs j hj).next
  have hle := he.rho_le hpre
  have himm : ∀ b, ID b → hp'[b]? = hp[b]? := fun b hb => he.frame b (hrj.imm b hb) (hrj.not_own hb)
  have back : ∀ b, b < hp0.size → Own ρD ((tr j).h.only (F j) (tr j).h.next) b → Own ρ (tr 0).h b := by
    rintro b hb ⟨id, o, h1, h2, h3⟩
    obtain ⟨hF, hlt, _⟩ := c.part t inv (by rw [h1]; simp) h2
    rw [only_heap (.inl hF)] at h2
    by_cases hin : (tr 0).h.next ≤ id
    · exact inv.ownρ id b o hin (by omega) h1 hb
    · rw [inv.out id (by omega)] at h1
      have ha := t.abs' (Nat.zero_le j) (by omega)
      exact ⟨id, o, h1, fun e => h2 (ha.dead id (by omega) e), by rw [← ha.lock]; exact h3⟩
  have hslot : ∀ y, RV ρ' I' hp' (lastVal (tr 0).sl l vv D y l.length) (a.tmps.getD y undef) := fun y => RV_mono hle he.imm himm he.shape _ _ (inv.slot y)
  -- the objects that it has looked at, and made
  have caseA : ∀ id, ρ' id ≠ none → (F j id ∧ id < (tr j).h.next) ∨ ((tr j).h.next ≤ id ∧ id < (tr (j + 1)).h.next) → HD tr (withD D j) id l.length = ((tr (j + 1)).h.only (F j) (tr j).h.next).heap id := by
    intro id hρ hA
    rcases hA with ⟨hF, hlt⟩ | ⟨h1, h2⟩
    · rw [only_heap (.inl hF)]
      have hρD : ρD id ≠ none := by rw [← he.rho id (by simp only [only_next]; omega)]; exact hρ
      refine HD_upto (by omega) (fun i hi hc => ?_)
      by_cases hij : i = j
      · subst hij
        simp [withD_eq]
      · rw [withD_ne hij, c.before t inv hρD hF hlt i hi hij hc]
        omega
    · rw [only_heap (.inr h1)]
      refine HD_upto (by omega) (fun i hi hc => ?_)
      by_cases hij : i = j
      · subst hij
        simp [withD_eq]
      · rw [withD_ne hij]
        rcases Nat.lt_or_ge i j with h | h
        · exfalso
          have := t.nextle (show i + 1 ≤ j by omega) (by omega)
          have h3 := t.nextle (show i ≤ i + 1 by omega) (by omega)
          rcases t.chg hi hc with g | g
          · have := g.1; omega
          · omega
        · refine ⟨fun hD => ?_, fun g => by omega⟩
          exfalso
          rcases t.chg hi hc with g | g
          · exact ((t.sep j i (by omega) hi (c.freeR hD)).2 id g).2 ⟨h1, h2⟩
          · have := t.nextle (show j + 1 ≤ i by omega) (by omega)
            omega
  -- the others
  have caseB : ∀ id, ¬ ((F j id ∧ id < (tr j).h.next) ∨ ((tr j).h.next ≤ id ∧ id < (tr (j + 1)).h.next)) → ρ' id = ρD id ∧ HD tr (withD D j) id l.length = HD tr D id l.length := by
    intro id hA
    refine ⟨he.rho id (by simp only [only_next]; omega), HD_congr _ (fun i hi hc => ?_)⟩
    by_cases hij : i = j
    · subst hij
      rcases t.chg hi hc with g | g
      · exact absurd (.inl ⟨hwr id g, g.1⟩) hA
      · exact absurd (.inr g) hA
    · exact withD_ne hij
  have keep : ∀ id b o, ¬ ((F j id ∧ id < (tr j).h.next) ∨ ((tr j).h.next ≤ id ∧ id < (tr (j + 1)).h.next)) → ρD id = some (b, o) → HD tr D id l.length ≠ none → b < hp.size ∧ ¬ Own ρD ((tr j).h.only (F j) (tr j).h.next) b := by
    intro id b o hA h1 h2
    have hlt : b < hp.size := Rel.block_lt (h := ⟨fun id => HD tr D id l.length, 0, 0⟩) inv.rel h1 h2
    refine ⟨hlt, ?_⟩
    rintro ⟨id2, o2, g1, g2, _⟩
    obtain ⟨f1, f2, f3⟩ := c.part t inv (by rw [g1]; simp) g2
    have := inv.rel.inj id id2 b o o2 h1 g1 h2 (by rw [f3]; exact g2)
    subst this
    exact hA (.inl ⟨f1, f2⟩)
  exact {
    size := by rw [put_size]; exact inv.size
    defers := by rw [put_defers]; exact inv.defers
    slot := c.slots t inv.size hslot hv
    rel := by
      refine ⟨he.rel.imm, fun id b o h1 h2 hI => ?_, fun id b o ob h1 h2 => ?_, fun id id' b o o' h1 h2 h3 h4 => ?_⟩
      · by_cases hA : (F j id ∧ id < (tr j).h.next) ∨ ((tr j).h.next ≤ id ∧ id < (tr (j + 1)).h.next)
        · rw [caseA id (by rw [h1]; simp) hA] at h2
          exact he.rel.apart id b o h1 h2 hI
        · obtain ⟨e1, e2⟩ := caseB id hA
          rw [e1] at h1
          simp only [e2] at h2
          obtain ⟨g1, g2⟩ := keep id b o hA h1 h2
          rcases he.own b g1 hI with h5 | h5
          · exact inv.rel.apart id b o h1 h2 h5
          · exact g2 h5
      · by_cases hA : (F j id ∧ id < (tr j).h.next) ∨ ((tr j).h.next ≤ id ∧ id < (tr (j + 1)).h.next)
        · rw [caseA id (by rw [h1]; simp) hA] at h2
          exact he.rel.obj id b o ob h1 h2
        · obtain ⟨e1, e2⟩ := caseB id hA
          rw [e1] at h1
          simp only [e2] at h2
          obtain ⟨g1, g2⟩ := keep id b o hA h1 (by rw [h2]; simp)
          exact ObjOk_mono hle he.imm himm he.shape (he.frame b g1 g2) (inv.rel.obj id b o ob h1 h2)
      · by_cases hA : (F j id ∧ id < (tr j).h.next) ∨ ((tr j).h.next ≤ id ∧ id < (tr (j + 1)).h.next) <;> by_cases hA' : (F j id' ∧ id' < (tr j).h.next) ∨ ((tr j).h.next ≤ id' ∧ id' < (tr (j + 1)).h.next)
        · rw [caseA id (by rw [h1]; simp) hA] at h3
          rw [caseA id' (by rw [h2]; simp) hA'] at h4
          exact he.rel.inj id id' b o o' h1 h2 h3 h4
        · exfalso
          obtain ⟨e1, e2⟩ := caseB id' hA'
          rw [e1] at h2
          simp only [e2] at h4
          obtain ⟨g1, g2⟩ := keep id' b o' hA' h2 h4
          rw [caseA id (by rw [h1]; simp) hA] at h3
          rcases hA with ⟨f1, f2⟩ | ⟨f1, f2⟩
          · rw [he.rho id (by simp only [only_next]; omega)] at h1
            have hlive : ((tr j).h.only (F j) (tr j).h.next).heap id ≠ none := fun e => h3 (he.dead id f2 e)
            have := inv.rel.inj id id' b o o' h1 h2 (by rw [(c.part t inv (by rw [h1]; simp) hlive).2.2]; exact hlive) h4
            subst this
            exact hA' (.inl ⟨f1, f2⟩)
          · exact g2 (he.ownρ id b o f1 f2 h1 g1)
        · exfalso
          obtain ⟨e1, e2⟩ := caseB id hA
          rw [e1] at h1
          simp only [e2] at h3
          obtain ⟨g1, g2⟩ := keep id b o hA h1 h3
          rw [caseA id' (by rw [h2]; simp) hA'] at h4
          rcases hA' with ⟨f1, f2⟩ | ⟨f1, f2⟩
          · rw [he.rho id' (by simp only [only_next]; omega)] at h2
            have hlive : ((tr j).h.only (F j) (tr j).h.next).heap id' ≠ none := fun e => h4 (he.dead id' f2 e)
            have := inv.rel.inj id id' b o o' h1 h2 h3 (by rw [(c.part t inv (by rw [h2]; simp) hlive).2.2]; exact hlive)
            subst this
            exact hA (.inl ⟨f1, f2⟩)
          · exact g2 (he.ownρ id' b o' f1 f2 h2 g1)
        · obtain ⟨e1, e2⟩ := caseB id hA
          obtain ⟨e1', e2'⟩ := caseB id' hA'
          rw [e1] at h1
          rw [e1'] at h2
          simp only [e2] at h3
          simp only [e2'] at h4
          exact inv.rel.inj id id' b o o' h1 h2 h3 h4
    dom := fun id h1 h2 h3 => by
      by_cases hin : (tr j).h.next ≤ id ∧ id < (tr (j + 1)).h.next
      · exact ⟨j, hj, by simp [withD], hin⟩
      · rw [he.rho id hin] at h3
        obtain ⟨i, g1, g2, g3⟩ := inv.dom id h1 h2 h3
        exact ⟨i, g1, by simp only [withD]; split <;> first | rfl | exact g2, g3⟩
    out := fun id h => by rw [he.rho id (by simp only [only_next]; omega)]; exact inv.out id h
    imm := fun b hb => he.imm b (inv.imm b hb)
    own := fun b hb hI => by
      rcases he.own b (by have := inv.hsize; omega) hI with h1 | h1
      · exact inv.own b hb h1
      · exact .inr (back b hb h1)
    ownρ := fun id b o h1 h2 h3 hb => by
      by_cases hin : (tr j).h.next ≤ id ∧ id < (tr (j + 1)).h.next
      · exact back b hb (he.ownρ id b o hin.1 hin.2 h3 (by have := inv.hsize; omega))
      · rw [he.rho id hin] at h3
        exact inv.ownρ id b o h1 h2 h3 hb
    hsize := Nat.le_trans inv.hsize he.size
    frame := fun b hb hno => by
      rw [he.frame b (by have := inv.hsize; omega) (fun h => hno (back b hb h))]
      exact inv.frame b hb hno
    shape := inv.shape.trans he.shape }
end
end Go.Ai
