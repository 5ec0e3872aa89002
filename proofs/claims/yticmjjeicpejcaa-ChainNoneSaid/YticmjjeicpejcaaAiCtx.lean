/-
  Contexts by the compiler.
-/
import Derived.Test.YticmjjeicpejcaaAiRow
set_option linter.unusedVariables false
namespace Go.Ai

abbrev Prim := (Cls → FuncId → List AV → AH → Option (AV × AH)) → Cls → List AV → AH → Option (AV × AH)

/-- A context: some functions by contracts, some as the compiler makes them. -/
noncomputable def mkG (P : Program) (hint : Hints) (mode : FuncId → Mode) (prims : FuncId → Option Prim) : Ctx := fun f =>
  match prims f with
  | some g => some (.prim g)
  | none => (P.funcs[f]?).bind fun fn => bif fn.name == "runtime.NumGoroutine" then none else (comp P hint (mode f) fn).map .fn

theorem comp_mode {P : Program} {hint : Hints} {m : Mode} {fn : Func} {afn : AFn} (h : comp P hint m fn = some afn) : afn.mode = m := by
  unfold comp at h
  obtain ⟨c, _, h⟩ := bind_some' h
  obtain ⟨ac, _, h⟩ := bind_some' h
  obtain ⟨rs, _, rfl⟩ := map_some' h
  rfl

theorem mkG_ok {P : Program} {hint : Hints} {mode : FuncId → Mode} {prims : FuncId → Option Prim} (hm : P.follows .mixedOrders = true)
    (hp : ∀ f g, prims f = some g → ∀ call, CallOk P call → OneOk P f (g call)) : CtxOk P (mkG P hint mode prims) where
  follows := hm
  fn := fun f afn h => by
    unfold mkG at h
    split at h
    · cases h
    · obtain ⟨fn, h1, h⟩ := bind_some' h
      rcases bif_cases h with ⟨_, h⟩ | ⟨hn, h⟩
      · cases h
      · obtain ⟨a, h2, e⟩ := map_some' h
        cases e
        refine ⟨fn, hint, h1, by rw [comp_mode h2]; exact h2, fun e => ?_⟩
        rw [e] at hn
        simp at hn
  prim := fun f g h => by
    unfold mkG at h
    split at h
    · cases h
      exact hp f _ (by assumption)
    · obtain ⟨fn, h1, h⟩ := bind_some' h
      rcases bif_cases h with ⟨_, h⟩ | ⟨hn, h⟩
      · cases h
      · obtain ⟨a, h2, e⟩ := map_some' h
        cases e
end Go.Ai
