/-
  ChainNone: a chain that is not there, and one that no call made, has nothing. No condition.
-/
import Derived.Test.YticmjjeicpejcaaCnRow
import Derived.Test.YticmjjeicpejcaaCnLiveOk
namespace Go.Proofs.Yticmjjeicpejcaa
open Go.Ai

def prims : FuncId → Option Prim := fun f => bif Nat.beq f 22 then some (delP .int) else bif Nat.beq f 8 then some liveP else none

theorem ctx : CtxOk Try.prog (mkG Try.prog hintOf modeOf prims) := by
  refine mkG_ok (by kernel_rfl) (fun f g h call hcall => ?_)
  unfold prims at h
  cases e : Nat.beq f 22 with
  | true =>
    obtain rfl := Nat.eq_of_beq_eq_true e
    cases h
    exact delOk hcall
  | false =>
    rw [e] at h
    cases e2 : Nat.beq f 8 with
    | true =>
      obtain rfl := Nat.eq_of_beq_eq_true e2
      cases h
      exact liveOk hcall
    | false =>
      rw [e2] at h
      cases h

theorem eval_map (a b : Int) : ((acall (mkG Try.prog hintOf modeOf prims) 100 .W 3 [.int .i64 a, .int .i64 b] AH.empty).map fun r => r.1) = some (.bool true) := by kernel_rfl

theorem eval (a b : Int) : ∃ h', acall (mkG Try.prog hintOf modeOf prims) 100 .W 3 [.int .i64 a, .int .i64 b] AH.empty = some (.bool true, h') := by
  have h := eval_map a b
  cases e : acall (mkG Try.prog hintOf modeOf prims) 100 .W 3 [.int .i64 a, .int .i64 b] AH.empty with
  | none => rw [e] at h; cases h
  | some r =>
    rw [e] at h
    obtain ⟨v, h'⟩ := r
    cases h
    exact ⟨h', rfl⟩

theorem chainNone_holds : Rows.ChainNoneSaid := row ctx eval
#print axioms chainNone_holds
end Go.Proofs.Yticmjjeicpejcaa
