/-
  The operations that look at slots alone: the model's give what the abstract ones give, in any world.
-/
import Derived.Test.YticmjjeicpejcaaAiStep
import Derived.Laws.StructEq
namespace Go.Ai

def Slots (ρ : Rho) (I : Nat → Prop) (hp : Hp) (sl : List AV) (a : Act) : Prop :=
  a.tmps.size = sl.length ∧ ∀ i, RV ρ I hp (sl.getD i .undef) (a.tmps.getD i undef)

section
variable {ρ : Rho} {I : Nat → Prop} {hp : Hp}

theorem scalarOf_sound {v : Value} {x : AV} (h : scalarOf v = some x) : RV ρ I hp x v ∧ v.oneCell' = true ∧ v.cells = #[v] ∧ x.cells = [x] := by
  unfold scalarOf at h
  split at h <;> first
    | (cases h; refine ⟨?_, rfl, rfl, rfl⟩; simp [RV])
    | cases h

theorem scalarsOf_sound : ∀ {vs : List Value} {xs : List AV}, scalarsOf vs = some xs → RVs ρ I hp xs vs ∧ allCells vs
  | [], xs, h => by cases h; exact ⟨rfl, by simp [allCells]⟩
  | v :: vs, xs, h => by
    simp only [scalarsOf, Option.bind_eq_some_iff] at h
    obtain ⟨x, h1, r, h2, h3⟩ := h
    cases h3
    obtain ⟨g1, g2, _⟩ := scalarOf_sound (ρ := ρ) (I := I) (hp := hp) h1
    obtain ⟨g3, g4⟩ := scalarsOf_sound h2
    refine ⟨⟨v, vs, rfl, g1, g3⟩, fun u hu => ?_⟩
    rcases List.mem_cons.1 hu with rfl | hu
    · exact g2
    · exact g4 u hu

theorem constOf_sound {v : Value} {x : AV} (h : constOf v = some x) : RV ρ I hp x v := by
  unfold constOf at h
  split at h
  · simp only [Option.map_eq_some_iff] at h
    obtain ⟨r, h1, rfl⟩ := h
    obtain ⟨g1, g2⟩ := scalarsOf_sound (ρ := ρ) (I := I) (hp := hp) h1
    exact ⟨_, rfl, g1, g2⟩
  · exact (scalarOf_sound h).1

/-- The cells of a constant. -/
theorem constOf_cells {v : Value} {x : AV} (h : constOf v = some x) : RVs ρ I hp x.cells v.cells.toList ∧ allCells v.cells.toList ∧ x ≠ .undef := by
  unfold constOf at h
  split at h
  · simp only [Option.map_eq_some_iff] at h
    obtain ⟨r, h1, rfl⟩ := h
    obtain ⟨g1, g2⟩ := scalarsOf_sound (ρ := ρ) (I := I) (hp := hp) h1
    exact ⟨by simpa [AV.cells, Value.cells] using g1, by simpa [Value.cells] using g2, by simp⟩
  · obtain ⟨g1, g2, g3, g4⟩ := scalarOf_sound (ρ := ρ) (I := I) (hp := hp) h
    rw [g3, g4]
    refine ⟨⟨v, [], by simp, g1, rfl⟩, by simpa [allCells] using g2, ?_⟩
    rintro rfl
    unfold scalarOf at h
    split at h <;> cases h

theorem compArg_sound {x : Operand} {ar : Arg} (h : compArg x = some ar) {sl : List AV} {a : Act} (hs : Slots ρ I hp sl a) : RV ρ I hp (ar.val sl) (a.eval x) := by
  cases x with
  | tmp t => cases h; exact hs.2 t
  | const v =>
    simp only [compArg, Option.map_eq_some_iff] at h
    obtain ⟨x, h1, rfl⟩ := h
    exact constOf_sound h1
  | func f => cases h; exact ⟨#[], rfl, rfl⟩
  | global g => cases h

theorem compArgs_sound : ∀ {xs : List Operand} {ars : List Arg}, compArgs xs = some ars → ∀ {sl : List AV} {a : Act}, Slots ρ I hp sl a →
    RVs ρ I hp (ars.map (·.val sl)) (xs.map a.eval)
  | [], ars, h, _, _, _ => by cases h; rfl
  | x :: xs, ars, h, sl, a, hs => by
    simp only [compArgs, Option.bind_eq_some_iff] at h
    obtain ⟨y, h1, r, h2, h3⟩ := h
    cases h3
    exact ⟨_, _, rfl, compArg_sound h1 hs, compArgs_sound h2 hs⟩

theorem compOpt_sound {x : Option Operand} {ar : Option Arg} (h : compOpt x = some ar) {sl : List AV} {a : Act} (hs : Slots ρ I hp sl a) :
    match ar.map (·.val sl), x.map a.eval with
    | none, none => True
    | some u, some v => RV ρ I hp u v
    | _, _ => False := by
  cases x with
  | none => cases h; trivial
  | some x =>
    simp only [compOpt, Option.map_eq_some_iff] at h
    obtain ⟨y, h1, rfl⟩ := h
    exact compArg_sound h1 hs

/-! ### What a value must be, by what stands for it -/
theorem RV_bool {b : Bool} {v : Value} (h : RV ρ I hp (.bool b) v) : v = .bool b := h
theorem RV_int {k : IntKind} {n : Int} {v : Value} (h : RV ρ I hp (.int k n) v) : v = .int k n := h

theorem toList_data (s : ByteArray) : s.toList = s.data.toList := by
  have h : ∀ (n i : Nat) (r : List UInt8), s.size - i = n → ByteArray.toList.loop s i r = r.reverse ++ s.data.toList.drop i := by
    intro n
    induction n with
    | zero =>
      intro i r hn
      rw [ByteArray.toList.loop]
      rw [if_neg (by omega)]
      have : s.data.toList.length ≤ i := by simp only [Array.length_toList]; exact Nat.sub_eq_zero_iff_le.1 hn
      rw [List.drop_eq_nil_of_le this]
      simp
    | succ n ih =>
      intro i r hn
      rw [ByteArray.toList.loop]
      rw [if_pos (by omega), ih (i + 1) _ (by omega)]
      have hlt : i < s.data.toList.length := by simp only [Array.length_toList]; show i < s.size; omega
      rw [List.drop_eq_getElem_cons hlt]
      simp only [List.reverse_cons, List.append_assoc, List.singleton_append]
      congr 2
      have : s.get! i = s.data[i]! := rfl
      rw [this]
      simp [Array.getElem_toList, getElem!_pos s.data i (by simpa using hlt)]
  have := h s.size 0 [] (by omega)
  simpa [ByteArray.toList] using this

theorem data_size (s : ByteArray) : s.data.toList.length = s.size := by simp only [Array.length_toList]; rfl

/-! ### Operators -/
theorem run_asInt (P : Program) (w : World) (k : IntKind) (n : Int) : (asIntOf (.int k n)).run P w = .ok (k, n) w := rfl

theorem intBin_sound {op : BinOp} {k : IntKind} {x y : Int} {v : AV} (h : intBin op k x y = some v) (P : Program) (t : TypeId) (w : World) :
    ∃ cv, (binOp op t (.int k x) (.int k y)).run P w = .ok cv w ∧ RV ρ I hp v cv := by
  cases op
  case quo =>
    simp only [intBin] at h
    split at h
    · cases h
    · rename_i hb
      cases h
      exact ⟨.int k (k.wrap (x.tdiv y)), by simp [binOp, Op.intDiv, hb], rfl⟩
  case rem =>
    simp only [intBin] at h
    split at h
    · cases h
    · rename_i hb
      cases h
      exact ⟨.int k (x.tmod y), by simp [binOp, Op.intDiv, hb], rfl⟩
  all_goals first
    | (simp only [intBin] at h; cases h; done)
    | (simp only [intBin, Option.some.injEq] at h; subst h; refine ⟨_, ?_, rfl⟩; simp [binOp, Op.intArith, Op.intCmp])

theorem strBin_sound {op : BinOp} {x y : ByteArray} {v : AV} (h : strBin op x.data.toList y.data.toList = some v) (P : Program) (t : TypeId) (w : World) :
    ∃ cv, (binOp op t (.string x) (.string y)).run P w = .ok cv w ∧ RV ρ I hp v cv := by
  have hx := toList_data x
  have hy := toList_data y
  cases op <;> simp only [strBin] at h <;> first
    | (cases h; refine ⟨_, rfl, ?_⟩; simp [RV, hx, hy]; done)
    | cases h
    | (cases e : Nat.ble (x.data.toList.length + y.data.toList.length) 4611686018427387904 with
       | false => rw [e] at h; cases h
       | true =>
         rw [e] at h
         cases h
         have hle := Nat.le_of_ble_eq_true e
         rw [data_size, data_size] at hle
         refine ⟨.string (x ++ y), ?_, ?_⟩
         · have : ¬ (((x.size + y.size : Nat) : Int) > IntKind.i64.max) := by
             have : IntKind.i64.max = 9223372036854775807 := rfl
             omega
           simp only [binOp, Op.stringOp]
           rw [if_neg this]
           rfl
         · simp only [RV]
           exact ⟨_, rfl, by simp⟩)
end
end Go.Ai
