/-
  Slices cut, elements' addresses; every operation that looks at slots alone.
-/
import Derived.Test.YticmjjeicpejcaaAiPure4
set_option linter.unusedVariables false
set_option linter.unusedSimpArgs false
namespace Go.Ai
section
variable {ρ : Rho} {I : Nat → Prop} {hp : Hp} {P : Program}

theorem vflat_length {n : Nat} : ∀ {vs : List Value}, (∀ v ∈ vs, v.cells.size = n) → (vflat vs).length = vs.length * n
  | [], _ => by simp [vflat]
  | v :: vs, h => by
    have h1 := h v (by simp)
    have h2 := vflat_length (vs := vs) (fun u hu => h u (by simp [hu]))
    simp only [vflat, List.length_append, Array.length_toList, h1, h2, List.length_cons, Nat.succ_mul]
    omega

theorem vflat_append (a b : List Value) : vflat (a ++ b) = vflat a ++ vflat b := by
  induction a with
  | nil => rfl
  | cons v a ih => simp [vflat, ih]

theorem Lies.sub {b o : Nat} {x y z : List Value} (h : Lies hp b o (x ++ y ++ z)) : Lies hp b (o + x.length) y := by
  obtain ⟨c, E, fz, h1, h2⟩ := h
  refine ⟨c, E, fz, h1, fun j v hv => ?_⟩
  have hj : j < y.length := by
    rcases Nat.lt_or_ge j y.length with h | h
    · exact h
    · rw [List.getElem?_eq_none h] at hv; cases hv
  have := h2 (x.length + j) v (by
    rw [List.append_assoc, List.getElem?_append_right (by omega), List.getElem?_append_left (by omega)]
    rw [show x.length + j - x.length = j by omega]
    exact hv)
  rw [show o + x.length + j = o + (x.length + j) by omega]
  exact this

/-- A part of a list of values lies where its place says. -/
theorem Lies.part {b o n : Nat} {vs : List Value} (h : Lies hp b o (vflat vs)) (hn : ∀ v ∈ vs, v.cells.size = n) {l m : Nat} (hl : l ≤ vs.length) : Lies hp b (o + l * n) (vflat ((vs.drop l).take m)) := by
  have e : vs = vs.take l ++ (vs.drop l).take m ++ (vs.drop l).drop m := by
    rw [List.append_assoc, List.take_append_drop, List.take_append_drop]
  have h' := h
  rw [e, vflat_append, vflat_append] at h'
  have := h'.sub
  rw [vflat_length (n := n) (fun v hv => hn v (List.mem_of_mem_take hv)), List.length_take, Nat.min_eq_left hl] at this
  exact this

theorem bound_le {n n' h : Nat} {v : AV} (hb : bound n v = some h) (hn : n ≤ n') : bound n' v = some h := by
  unfold bound at hb ⊢
  split at hb
  · split at hb
    · rename_i hi
      cases hb
      rw [if_pos ⟨hi.1, by omega⟩]
    · cases hb
  · cases hb

theorem bound_is {n h : Nat} {v : AV} (hb : bound n v = some h) : h ≤ n := by
  unfold bound at hb
  split at hb
  · split at hb
    · cases hb; omega
    · cases hb
  · cases hb

theorem run_sliceAt_sl {t e : TypeId} {i : TypeInfo} (ht : P.underlying t = some (.slice e)) (hi : P.info? e = some i) {LO HI MX : Option Value} {A : Option Addr} {len cap l h m : Nat} {w : World}
    (hb : (Instr.sliceBounds true len cap LO HI MX).run P w = .ok (l, h, m) w) :
    (Instr.sliceAt t (.slice A len cap) LO HI MX).run P w = .ok (.slice (if m = l then A else A.map (·.add (l * i.size))) (h - l) (m - l)) w := by
  simp [Instr.sliceAt, run_underlying ht, Instr.slice, hb, run_sizeOf' hi]

theorem sliceV_sound {t e : TypeId} {i : TypeInfo} (ht : P.underlying t = some (.slice e)) (hi : P.info? e = some i) {x : AV} {X : Value} {lo hi' mx : Option AV} {LO HI MX : Option Value}
    (hx : RV ρ I hp x X) (hlo : OV ρ I hp lo LO) (hhi : OV ρ I hp hi' HI) (hmx : OV ρ I hp mx MX) {v : AV} (h : sliceV i.size x lo hi' mx = some v) (w : World) :
    ∃ cv, (Instr.sliceAt t X LO HI MX).run P w = .ok cv w ∧ RV ρ I hp v cv := by
  unfold sliceV at h
  cases x <;> simp only [reduceCtorEq] at h
  case empt b =>
    have hcut : mx.isSome = true → hi'.isSome = true := by
      intro hm
      cases hi' with
      | none => rw [hm] at h; cases h
      | some _ => rfl
    have h : ((obound 0 0 mx).bind fun _ => (obound 0 0 hi').bind fun _ => (obound 0 0 lo).bind fun _ => some (AV.empt b)) = some v := by
      cases e : (mx.isSome && !hi'.isSome) with
      | true => rw [e] at h; cases h
      | false => rw [e] at h; exact h
    obtain ⟨m, h1, h⟩ := bind_some' h
    obtain ⟨hh, h2, h⟩ := bind_some' h
    obtain ⟨l, h3, h⟩ := bind_some' h
    cases h
    obtain ⟨A, rfl, hA⟩ := hx
    have em : m = 0 := by cases mx with | none => cases h1; rfl | some u => exact Nat.le_zero.1 (bound_is h1)
    have eh : hh = 0 := by cases hi' with | none => cases h2; rfl | some u => exact Nat.le_zero.1 (bound_is h2)
    have el : l = 0 := by cases lo with | none => cases h3; rfl | some u => exact Nat.le_zero.1 (bound_is h3)
    subst em; subst eh; subst el
    have hb := sliceBounds_sound (P := P) (isSlice := true) (len := 0) (cap := 0) hlo hhi hmx (m := 0) (h := 0) (l := 0) h1
      (by cases mx with
          | none => exact h2
          | some u => cases hi' with
            | none => exact absurd (hcut rfl) (by simp)
            | some u' => exact h2) h3 w
    exact ⟨_, run_sliceAt_sl ht hi hb, A, by simp, hA⟩
  case list es =>
    cases mx with
    | some u => cases h
    | none =>
    simp only at h
    obtain ⟨hh, h2, h⟩ := bind_some' h
    obtain ⟨l, h3, h⟩ := bind_some' h
    obtain ⟨A, cap, rfl, hcap, hes⟩ := hx
    have hle : hh ≤ es.length := by cases hi' with | none => cases h2; exact Nat.le_refl _ | some u => exact bound_is h2
    have hlh : l ≤ hh := by cases lo with | none => cases h3; exact Nat.zero_le _ | some u => exact bound_is h3
    have hb := sliceBounds_sound (P := P) (isSlice := true) (len := es.length) (cap := cap) hlo hhi hmx (m := cap) (h := hh) (l := l) rfl
      (by cases hi' with | none => exact h2 | some u => exact bound_le (v := u) h2 hcap) h3 w
    refine ⟨_, run_sliceAt_sl ht hi hb, ?_⟩
    have hlen : ((es.take hh).drop l).length = hh - l := by simp [Nat.min_eq_left hle]
    cases hp' : (es.take hh).drop l with
    | nil =>
      rw [hp'] at h hlen
      cases h
      simp only [RV]
      simp only [List.length_nil] at hlen
      exact ⟨_, _, by rw [← hlen]; rfl, Nat.zero_le _, .inl (by simp)⟩
    | cons y r =>
      rw [hp'] at h hlen
      simp only at h
      cases e1 : y.cellOk <;> rw [e1] at h
      · cases h
      cases e2 : Nat.beq y.cells.length i.size <;> rw [e2] at h
      · cases h
      cases h
      have e2 := Nat.eq_of_beq_eq_true e2
      simp only [List.length_cons] at hlen
      rcases hes with hes | ⟨b, o, vs, n, rfl, hI, hlie, hrv, hn⟩
      · subst hes; simp at hp'
      · have hvl := RVs_length _ _ hrv
        have hrv' : RVs ρ I hp (y :: r) ((vs.take hh).drop l) := by rw [← hp']; exact RVs_drop (RVs_take hrv hh) l
        have hsz : n = i.size := by
          obtain ⟨u, us, hu, hu1, hu2⟩ := hrv'
          have h5 := (RV_cells hu1 e1).1
          have h6 := RVs_length _ _ h5
          rw [Array.length_toList, hn u (List.mem_of_mem_take (List.mem_of_mem_drop (by rw [hu]; simp)))] at h6
          omega
        subst hsz
        simp only [RV]
        refine ⟨_, cap - l, by rw [if_neg (by omega), List.length_cons, hlen], by rw [List.length_cons]; omega, .inr ⟨b, o + l * i.size, (vs.take hh).drop l, i.size, by simp [add_none], hI, ?_, hrv', fun v hv => hn v (List.mem_of_mem_take (List.mem_of_mem_drop hv))⟩⟩
        rw [List.drop_take]
        exact hlie.part hn (by omega)
  case sref id off len cap ek =>
    cases e0 : Nat.beq ek.size i.size <;> rw [e0] at h
    · cases h
    have e0 := Nat.eq_of_beq_eq_true e0
    simp only [cond_true] at h
    obtain ⟨b, o, c, hρ, rfl, hlc, hcc, cc, E, fz, hblk, hfit⟩ := hx
    have hmul : ∀ {l c : Nat}, l ≤ c → l * i.size + (c - l) * i.size = c * i.size := by
      intro l c hl
      rw [← Nat.add_mul]
      congr 1
      omega
    cases mx with
    | some u =>
      simp only at h
      obtain ⟨m, h1, h⟩ := bind_some' h
      obtain ⟨hh, h2, h⟩ := bind_some' h
      obtain ⟨l, h3, h⟩ := bind_some' h
      have hm : m ≤ cap := bound_is h1
      have hhm : hh ≤ m := by cases hi' with | none => cases h2 | some u => exact bound_is (v := u) h2
      have hlh : l ≤ hh := by cases lo with | none => cases h3; exact Nat.zero_le _ | some u => exact bound_is h3
      have hb := sliceBounds_sound (P := P) (isSlice := true) (len := len) (cap := c) hlo hhi hmx (m := m) (h := hh) (l := l) (bound_le h1 hcc)
        h2 h3 w
      refine ⟨_, run_sliceAt_sl ht hi hb, ?_⟩
      cases e1 : Nat.beq m l <;> rw [e1] at h
      · cases h
        have hne : m ≠ l := fun e => by subst e; rw [Nat.beq_refl] at e1; cases e1
        simp only [RV]
        refine ⟨b, o, m - l, hρ, by rw [if_neg hne]; simp [add_none, e0, Nat.add_assoc], by omega, by omega, cc, E, fz, hblk, ?_⟩
        have := hmul (l := l) (c := m) (by omega)
        have h7 : m * i.size ≤ c * i.size := Nat.mul_le_mul_right _ (by omega)
        rw [e0] at hfit ⊢
        omega
      · cases h
        have e1 := Nat.eq_of_beq_eq_true e1
        subst e1
        simp only [RV]
        exact ⟨_, by rw [show hh - m = 0 by omega, Nat.sub_self], by simp⟩
    | none =>
      simp only at h
      obtain ⟨hh, h2, h⟩ := bind_some' h
      obtain ⟨l, h3, h⟩ := bind_some' h
      have hhm : hh ≤ cap := by cases hi' with | none => cases h2; exact hlc | some u => exact bound_is (v := u) h2
      have hlh : l ≤ hh := by cases lo with | none => cases h3; exact Nat.zero_le _ | some u => exact bound_is h3
      have hb := sliceBounds_sound (P := P) (isSlice := true) (len := len) (cap := c) hlo hhi hmx (m := c) (h := hh) (l := l) rfl
        (by cases hi' with | none => exact h2 | some u => exact bound_le (v := u) h2 hcc) h3 w
      refine ⟨_, run_sliceAt_sl ht hi hb, ?_⟩
      cases e1 : Nat.beq cap l <;> rw [e1] at h
      · cases h
        have hne : cap ≠ l := fun e => by subst e; rw [Nat.beq_refl] at e1; cases e1
        simp only [RV]
        refine ⟨b, o, c - l, hρ, by rw [if_neg (by omega)]; simp [add_none, e0, Nat.add_assoc], by omega, by omega, cc, E, fz, hblk, ?_⟩
        have := hmul (l := l) (c := c) (by omega)
        rw [e0] at hfit ⊢
        omega
      · cases h
        have e1 := Nat.eq_of_beq_eq_true e1
        simp only [RV]
        exact ⟨_, _, by rw [show hh - l = 0 by omega]; rfl, Nat.zero_le _, .inl (by simp)⟩
end
end Go.Ai
