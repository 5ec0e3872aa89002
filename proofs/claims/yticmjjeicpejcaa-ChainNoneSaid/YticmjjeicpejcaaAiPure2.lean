/-
  The operations that look at slots alone, whole: comparisons, structs, addresses, slices.
-/
import Derived.Test.YticmjjeicpejcaaAiPure
import Derived.Laws.Tables
import Derived.Laws.Slices
set_option linter.unusedVariables false
set_option linter.unusedSimpArgs false
namespace Go.Ai
section
variable {ρ : Rho} {I : Nat → Prop} {hp : Hp}

theorem RV_cells {c : AV} {v : Value} (h : RV ρ I hp c v) (hc : c.cellOk = true) : RVs ρ I hp c.cells v.cells.toList ∧ allCells v.cells.toList := by
  refine ⟨RVs_cells h (fun _ _ => trivial) (by rintro rfl; simp [AV.cellOk] at hc), ?_⟩
  cases c with
  | undef => simp [AV.cellOk] at hc
  | tup => simp [AV.cellOk] at hc
  | agg cs =>
    obtain ⟨arr, rfl, _, h3⟩ := h
    exact h3
  | _ =>
    simp only [RV] at h
    first
      | (subst h; simp [Value.cells, allCells, Value.oneCell']; done)
      | (obtain ⟨_, rfl, _⟩ := h; simp [Value.cells, allCells, Value.oneCell']; done)
      | (obtain ⟨_, _, rfl, _⟩ := h; simp [Value.cells, allCells, Value.oneCell']; done)
      | (obtain ⟨_, _, _, rfl, _⟩ := h; simp [Value.cells, allCells, Value.oneCell']; done)
      | (obtain ⟨_, _, rfl⟩ := h; simp [Value.cells, allCells, Value.oneCell']; done)
      | (obtain ⟨_, _, _, rfl⟩ := h; simp [Value.cells, allCells, Value.oneCell']; done)
      | (obtain ⟨_, _, _, _, rfl, _⟩ := h; simp [Value.cells, allCells, Value.oneCell']; done)

/-! ### Equality -/
theorem eq_fin {P : Program} {t : TypeId} {X Y : Value} {r : Bool} {w : World} (h1 : binOp .eql t X Y = (do pure (.bool (← Op.equal t X Y)))) (h2 : binOp .neq t X Y = (do pure (.bool (!(← Op.equal t X Y)))))
    (h3 : ∀ d, (Op.equalIn (d + 1) t X Y).run P w = .ok r w) : (binOp .eql t X Y).run P w = .ok (.bool r) w ∧ (binOp .neq t X Y).run P w = .ok (.bool !r) w := by
  have h := h3 9999
  have he : (Op.equal t X Y).run P w = .ok r w := h
  rw [h1, h2]
  constructor <;> simp [he]

/-- What '==' gives at values. -/
def eqC : EqK → Value → Value → Option Bool
  | .bool, .bool a, .bool b => some (a == b)
  | .ptr, .pointer none, .pointer none => some true
  | .ptr, .pointer none, .pointer (some _) => some false
  | .ptr, .pointer (some _), .pointer none => some false
  | .slice, .slice none _ _, .slice none _ _ => some true
  | .slice, .slice none _ _, .slice (some _) _ _ => some false
  | .slice, .slice (some _) _ _, .slice none _ _ => some false
  | .map, .map none, .map none => some true
  | .map, .map none, .map (some _) => some false
  | .map, .map (some _), .map none => some false
  | .func, .nilFunc, .nilFunc => some true
  | .func, .nilFunc, .func _ _ _ => some false
  | .func, .func _ _ _, .nilFunc => some false
  | _, _, _ => none

theorem eqC_sound {P : Program} {t : TypeId} {X Y : Value} {r : Bool} (h : eqC (eqKOf P t) X Y = some r) (w : World) :
    (binOp .eql t X Y).run P w = .ok (.bool r) w ∧ (binOp .neq t X Y).run P w = .ok (.bool !r) w := by
  have hu : ∀ k, eqKOf P t = k → k ≠ .other → ∃ d, P.underlying t = some d ∧ (match k, d with
      | .bool, .bool | .ptr, .pointer _ | .slice, .slice _ | .map, .map _ _ | .func, .func _ _ _ => True
      | _, _ => False) := by
    intro k hk hne
    unfold eqKOf at hk
    split at hk <;> subst hk <;> first
      | exact absurd rfl hne
      | (rename_i hd; exact ⟨_, hd, trivial⟩)
  unfold eqC at h
  split at h <;> rename_i hk <;> first
    | (cases h; done)
    | (obtain ⟨d, hd, hm⟩ := hu _ hk (by simp)
       cases d <;> simp only at hm
       cases h
       exact eq_fin rfl rfl (fun d => by simp [Op.equalIn, run_underlying hd]))

theorem eqV_sound {x y : AV} {X Y : Value} {r : Bool} {k : EqK} (h : eqV k x y = some r) (hx : RV ρ I hp x X) (hy : RV ρ I hp y Y) :
    eqC k X Y = some r := by
  have nonempty : ∀ {v : AV} {vs : List AV} {V : Value}, RV ρ I hp (.list (v :: vs)) V → ∃ a n c, V = .slice (some a) n c := by
    intro v vs V hV
    simp only [RV] at hV
    obtain ⟨A, cap, rfl, _, h3⟩ := hV
    simp only [List.cons_ne_nil, false_or] at h3
    obtain ⟨b, o, us, _, rfl, _⟩ := h3
    exact ⟨_, _, _, rfl⟩
  have isref : ∀ {id off len cap : Nat} {e : EK} {V : Value}, RV ρ I hp (.sref id off len cap e) V → ∃ a n c, V = .slice (some a) n c := by
    intro id off len cap e V hV
    simp only [RV] at hV
    obtain ⟨b, o, c, _, rfl, _⟩ := hV
    exact ⟨_, _, _, rfl⟩
  have isnil : ∀ {V : Value}, RV ρ I hp (.empt true) V → V = .slice none 0 0 := by
    intro V hV
    simp only [RV] at hV
    obtain ⟨A, rfl, hA⟩ := hV
    rw [hA trivial]
  have isptr : ∀ {id off : Nat} {V : Value}, RV ρ I hp (.ptr id off) V → ∃ a, V = .pointer (some a) := by
    intro id off V hV
    simp only [RV] at hV
    obtain ⟨b, o, _, rfl⟩ := hV
    exact ⟨_, rfl⟩
  have isiptr : ∀ {cs : List AV} {V : Value}, RV ρ I hp (.iptr cs) V → ∃ a, V = .pointer (some a) := by
    intro cs V hV
    simp only [RV] at hV
    obtain ⟨b, o, vs, rfl, _⟩ := hV
    exact ⟨_, rfl⟩
  have ismref : ∀ {id : Nat} {V : Value}, RV ρ I hp (.mref id) V → ∃ a, V = .map (some a) := by
    intro id V hV
    simp only [RV] at hV
    obtain ⟨b, _, rfl⟩ := hV
    exact ⟨_, rfl⟩
  have isimap : ∀ {ks vs : List AV} {V : Value}, RV ρ I hp (.imap ks vs) V → ∃ a, V = .map (some a) := by
    intro ks vs V hV
    simp only [RV] at hV
    obtain ⟨r, _, _, rfl, _⟩ := hV
    exact ⟨_, rfl⟩
  have isfunc : ∀ {f : FuncId} {cs : List AV} {V : Value}, RV ρ I hp (.func f cs) V → ∃ g c d, V = .func g c d := by
    intro f cs V hV
    simp only [RV] at hV
    obtain ⟨cap, rfl, _⟩ := hV
    exact ⟨_, _, _, rfl⟩
  have n1 : ∀ {V : Value}, RV ρ I hp .nilptr V → V = .pointer none := fun h => h
  have n2 : ∀ {V : Value}, RV ρ I hp .nilmap V → V = .map none := fun h => h
  have n3 : ∀ {V : Value}, RV ρ I hp .nilfunc V → V = .nilFunc := fun h => h
  have n4 : ∀ {b : Bool} {V : Value}, RV ρ I hp (.bool b) V → V = .bool b := fun h => h
  cases k <;> cases x <;> cases y <;> simp only [eqV, reduceCtorEq] at h <;> first
    | (rw [n4 hx, n4 hy]; exact h)
    | (rw [n1 hx, n1 hy]; exact h)
    | (rw [n1 hx]; obtain ⟨_, rfl⟩ := isptr hy; exact h)
    | (rw [n1 hx]; obtain ⟨_, rfl⟩ := isiptr hy; exact h)
    | (rw [n1 hy]; obtain ⟨_, rfl⟩ := isptr hx; exact h)
    | (rw [n1 hy]; obtain ⟨_, rfl⟩ := isiptr hx; exact h)
    | (rw [n2 hx, n2 hy]; exact h)
    | (rw [n2 hx]; obtain ⟨_, rfl⟩ := ismref hy; exact h)
    | (rw [n2 hx]; obtain ⟨_, rfl⟩ := isimap hy; exact h)
    | (rw [n2 hy]; obtain ⟨_, rfl⟩ := ismref hx; exact h)
    | (rw [n2 hy]; obtain ⟨_, rfl⟩ := isimap hx; exact h)
    | (rw [n3 hx, n3 hy]; exact h)
    | (rw [n3 hx]; obtain ⟨_, _, _, rfl⟩ := isfunc hy; exact h)
    | (rw [n3 hy]; obtain ⟨_, _, _, rfl⟩ := isfunc hx; exact h)
    | (rename_i b b'; cases b <;> cases b' <;> simp only [eqV, reduceCtorEq] at h; rw [isnil hx, isnil hy]; exact h)
    | (rename_i b es; cases b <;> cases es <;> simp only [eqV, reduceCtorEq] at h; rw [isnil hx]; obtain ⟨_, _, _, rfl⟩ := nonempty hy; exact h)
    | (rename_i es b; cases b <;> cases es <;> simp only [eqV, reduceCtorEq] at h; rw [isnil hy]; obtain ⟨_, _, _, rfl⟩ := nonempty hx; exact h)
    | (rename_i b _ _ _ _ _; cases b <;> simp only [eqV, reduceCtorEq] at h; rw [isnil hx]; obtain ⟨_, _, _, rfl⟩ := isref hy; exact h)
    | (rename_i _ _ _ _ _ b; cases b <;> simp only [eqV, reduceCtorEq] at h; rw [isnil hy]; obtain ⟨_, _, _, rfl⟩ := isref hx; exact h)

end
end Go.Ai
