/-
  Every operation that looks at slots alone.
-/
import Derived.Test.YticmjjeicpejcaaAiPure3
set_option linter.unusedVariables false
set_option linter.unusedSimpArgs false
namespace Go.Ai
section
variable {ρ : Rho} {I : Nat → Prop} {hp : Hp} {P : Program}

theorem ekOf_spec {t : TypeId} {e : EK} (h : ekOf P t = some e) : ∃ d i, P.underlying t = some d ∧ P.info? t = some i ∧ isAggD d = e.agg ∧ i.size = e.size ∧ 1 ≤ e.size ∧ (e.agg = false → e.size = 1) := by
  unfold ekOf at h
  split at h
  · rename_i d i hd hi
    cases ha : isAggD d <;> rw [ha] at h
    · cases hb : Nat.beq i.size 1 <;> rw [hb] at h
      · cases h
      · cases h
        have := Nat.eq_of_beq_eq_true hb
        exact ⟨d, i, hd, hi, ha, this, Nat.le_refl _, fun _ => rfl⟩
    · cases hb : Nat.ble 1 i.size <;> rw [hb] at h
      · cases h
      · cases h
        have := Nat.le_of_ble_eq_true hb
        exact ⟨d, i, hd, hi, ha, rfl, this, fun h => by simp at h⟩
  · cases h

theorem run_sizeOf' {t : TypeId} {i : TypeInfo} (h : P.info? t = some i) (w : World) : (sizeOf t).run P w = .ok i.size w := by simp [sizeOf, typeInfo, h]
theorem run_isAgg' {t : TypeId} {d : TypeDesc} (h : P.underlying t = some d) (w : World) : (isAgg t).run P w = .ok (isAggD d) w := by
  simp only [isAgg, Sem.run_bind, run_underlying h, Result.andThen_ok]
  cases d <;> rfl
theorem run_zeroValue' {t : TypeId} {i : TypeInfo} {z : Value} (h : P.info? t = some i) (hz : i.zero = some z) (w : World) : (zeroValue t).run P w = .ok z w := by
  simp [zeroValue, typeInfo, h, hz]

theorem zeroOf_spec {t : TypeId} {z : AV} (h : zeroOf P t = some z) : ∃ i zv, P.info? t = some i ∧ i.zero = some zv ∧ constOf zv = some z := by
  unfold zeroOf at h
  split at h
  · rename_i i hi
    obtain ⟨zv, h1, h2⟩ := bind_some' h
    exact ⟨i, zv, hi, h1, h2⟩
  · cases h

/-- Cells packed to a value. -/
theorem pack_sound {e : EK} {cs : List AV} {vs : List Value} {v : AV} (h : pack e cs = some v) (hr : RVs ρ I hp cs vs) (hc : allCells vs) :
    if e.agg then vs.length = e.size ∧ RV ρ I hp v (.agg vs.toArray) else ∃ x, vs = [x] ∧ RV ρ I hp v x := by
  unfold pack at h
  cases ha : e.agg <;> rw [ha] at h
  · simp only [cond_false] at h
    split at h
    · cases h
      obtain ⟨x, us, rfl, h1, h2⟩ := hr
      simp only [RVs] at h2
      subst h2
      simp only [Bool.false_eq_true, if_false]
      exact ⟨x, rfl, h1⟩
    · cases h
  · simp only [cond_true] at h
    cases hb : Nat.beq cs.length e.size <;> rw [hb] at h
    · cases h
    · cases h
      simp only [if_true]
      exact ⟨by rw [RVs_length _ _ hr]; exact Nat.eq_of_beq_eq_true hb, vs.toArray, rfl, by simpa using hr, by simpa using hc⟩

theorem run_part {t : TypeId} {e : EK} (he : ekOf P t = some e) {cs : List AV} {arr : Array Value} {off : Nat} {v : AV} (hr : RVs ρ I hp cs arr.toList) (hc : allCells arr.toList)
    (h : pack e ((cs.drop off).take e.size) = some v) (w : World) : ∃ cv, (part t arr off).run P w = .ok cv w ∧ RV ρ I hp v cv := by
  obtain ⟨d, i, hd, hi, h1, h2, h3, h4⟩ := ekOf_spec he
  have hs := pack_sound h (RVs_take (RVs_drop hr off) e.size) (fun v hv => hc v (List.mem_of_mem_drop (List.mem_of_mem_take hv)))
  cases ha : e.agg with
  | true =>
    rw [ha] at hs
    simp only [if_true] at hs
    refine ⟨_, ?_, hs.2⟩
    simp only [part, Sem.run_bind, run_isAgg' hd, Result.andThen_ok, h1, ha, if_true, run_sizeOf' hi, h2, Sem.run_pure, Sem.run_map]
    congr 2
    apply Array.toList_inj.1
    simp [Array.toList_extract, List.extract_eq_take_drop]
  | false =>
    rw [ha] at hs
    simp only [Bool.false_eq_true, if_false] at hs
    obtain ⟨x, hx, hv⟩ := hs
    refine ⟨x, ?_, hv⟩
    have : arr[off]? = some x := by
      have := congrArg (·[0]?) hx
      simp only [List.getElem?_cons_zero] at this
      rw [List.getElem?_take] at this
      split at this
      · rw [List.getElem?_drop] at this
        simpa using this
      · cases this
    simp only [part, Sem.run_bind, run_isAgg' hd, Result.andThen_ok, h1, ha, Bool.false_eq_true, if_false, this]
    rfl

theorem add_none (b o n : Nat) : (⟨b, o, none⟩ : Addr).add n = ⟨b, o + n, none⟩ := by
  unfold Addr.add
  split
  · subst_vars; rfl
  · rfl

theorem run_fieldAt {s : TypeId} {fs : Array Field} {f : Nat} {fl : Field} {i : TypeInfo} (h1 : P.underlying s = some (.struct fs)) (h2 : fs[f]? = some fl) (h3 : P.info? fl.type = some i) (h4 : 1 ≤ i.size)
    (b o : Nat) (w : World) : (Instr.fieldAt s (.pointer (some ⟨b, o, none⟩)) f).run P w = .ok (.pointer (some ⟨b, o + fl.offset, none⟩)) w := by
  have hne : ¬ i.size = 0 := by omega
  simp [Instr.fieldAt, run_underlying h1, h2, Instr.sureAddr, fieldPlace, run_sizeOf' h3, hne, add_none]

/-! ### Slices -/
theorem bound_sound {most : Nat} {v : AV} {n : Nat} {V : Value} (h : bound most v = some n) (hv : RV ρ I hp v V) (code : BoundsCode) (w : World) :
    (Instr.sliceBound V most code).run P w = .ok n w ∧ n ≤ most := by
  unfold bound at h
  split at h
  · rename_i k i
    split at h
    · rename_i hi
      cases h
      obtain rfl : V = .int k i := hv
      exact ⟨run_sliceBound w k i most code hi.1 hi.2, by omega⟩
    · cases h
  · cases h

def OV (ρ : Rho) (I : Nat → Prop) (hp : Hp) : Option AV → Option Value → Prop
  | none, none => True
  | some u, some v => RV ρ I hp u v
  | _, _ => False

theorem compOpt_OV {x : Option Operand} {ar : Option Arg} (h : compOpt x = some ar) {sl : List AV} {a : Act} (hs : Slots ρ I hp sl a) :
    OV ρ I hp (ar.map (·.val sl)) (x.map a.eval) := by
  cases x with
  | none => cases h; trivial
  | some x =>
    obtain ⟨y, h1, rfl⟩ := map_some' h
    exact compArg_sound h1 hs

/-- The bounds, as the model finds them. -/
theorem sliceBounds_sound {isSlice : Bool} {len cap : Nat} {lo hi mx : Option AV} {LO HI MX : Option Value} (hlo : OV ρ I hp lo LO) (hhi : OV ρ I hp hi HI) (hmx : OV ρ I hp mx MX)
    {m h l : Nat} (h1 : obound cap cap mx = some m) (h2 : (bif mx.isSome then hi.bind (bound m) else obound m len hi) = some h) (h3 : obound h 0 lo = some l) (w : World) :
    (Instr.sliceBounds isSlice len cap LO HI MX).run P w = .ok (l, h, m) w := by
  cases mx with
  | none =>
    cases MX with
    | some _ => exact hmx.elim
    | none =>
      cases h1
      cases hi with
      | none =>
        cases HI with
        | some _ => exact hhi.elim
        | none =>
          cases h2
          cases lo with
          | none =>
            cases LO with
            | some _ => exact hlo.elim
            | none => cases h3; rfl
          | some v =>
            cases LO with
            | none => exact hlo.elim
            | some V =>
              have := (bound_sound (P := P) h3 hlo .sliceB w).1
              simp [Instr.sliceBounds, this]
      | some v =>
        cases HI with
        | none => exact hhi.elim
        | some V =>
          have g2 := (bound_sound (P := P) h2 hhi (if isSlice then .sliceAcap else .sliceAlen) w).1
          cases lo with
          | none =>
            cases LO with
            | some _ => exact hlo.elim
            | none => cases h3; simp [Instr.sliceBounds, g2]
          | some v =>
            cases LO with
            | none => exact hlo.elim
            | some V =>
              have := (bound_sound (P := P) h3 hlo .sliceB w).1
              simp [Instr.sliceBounds, this, g2]
  | some v =>
    cases MX with
    | none => exact hmx.elim
    | some MV =>
      have g1 := (bound_sound (P := P) h1 hmx (if isSlice then .slice3Acap else .slice3Alen) w).1
      cases hi with
      | none => cases h2
      | some v =>
        have h2 : bound m v = some h := h2
        cases HI with
        | none => exact hhi.elim
        | some V =>
          have g2 := (bound_sound (P := P) h2 hhi .slice3B w).1
          cases lo with
          | none =>
            cases LO with
            | some _ => exact hlo.elim
            | none => cases h3; simp [Instr.sliceBounds, g1, g2]
          | some v =>
            cases LO with
            | none => exact hlo.elim
            | some V =>
              have := (bound_sound (P := P) h3 hlo .slice3C w).1
              simp [Instr.sliceBounds, this, g1, g2]
end
end Go.Ai
