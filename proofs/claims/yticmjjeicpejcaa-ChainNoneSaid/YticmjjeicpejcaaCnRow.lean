/-
  The row of ChainNone.
-/
import Derived.Test.YticmjjeicpejcaaRows
import Derived.Test.YticmjjeicpejcaaAiCtx
namespace Go.Proofs.Yticmjjeicpejcaa
open Go.ChangeShapes Go.WideShapes Go.ChangeAt Go.RowKit Go.Ai

def wl : List Nat := [4,6,7,9,15,21,22,28,29,31,39,42,47,48,49,50,51,52,54,55,58,59,60,61,62,63,65,66,72,74,78]
def ol : List Nat := [16,17,24,27]
def hintOf : Hints := ⟨fun f => bif wl.contains f then .W else .M, fun _ => .M, fun _ => false⟩
def modeOf (f : Nat) : Go.Ai.Mode := bif wl.contains f then .full else bif ol.contains f then .own else .pure

theorem own : ownKnob Try.prog.godebug = none := by kernel_rfl
theorem laidOut : laidOutB Try.prog = true := by kernel_rfl

theorem readable : ∀ t ∈ Try.f3.params.toList, Try.prog.readableRec t = true ∧ t < Try.prog.types.size := by
  have h : (Try.f3.params.toList.all fun t => Try.prog.readableRec t && decide (t < Try.prog.types.size)) = true := by kernel_rfl
  intro t ht
  have := List.all_eq_true.1 h t ht
  simp only [Bool.and_eq_true, decide_eq_true_eq] at this
  exact this

set_option maxRecDepth 100000 in
theorem lifted {prims : FuncId → Option Prim} (hG : CtxOk Try.prog (mkG Try.prog hintOf modeOf prims))
    (he : ∀ a b : Int, ∃ h', acall (mkG Try.prog hintOf modeOf prims) 100 .W 3 [.int .i64 a, .int .i64 b] AH.empty = some (.bool true, h')) (os : Os) (started : os.Started) (H : Type) (enc : TypeId × Value → H) :
    ReturnsInHanded {} Try.checked os 3 .any (Rows.chainNoneSpec.pre6 enc Try.prog Try.f3 Rows.chainNoneRow.domain false) (Rows.chainNoneSpec.post enc Try.prog Try.f3 false true false false) := by
  refine returnsInHanded_of_change (C := Try.checked) own started (by kernel_rfl) Try.func3
    (ChangeSpec.witness6 (enc := enc) (C := Try.checked) false ⟨#[], #[.int .i64 0, .int .i64 0], []⟩ 8 (by kernel_rfl) (by kernel_rfl) (by kernel_rfl) (by kernel_rfl)) ?_
  intro W base args ds gs before hval0 hW hcnd _
  have hval : ∀ (j : Nat) t v, Try.f3.params[j]? = some t → args[j]? = some v → Value.okWide Try.prog W .any base t v := hval0
  have hW' := hW
  obtain ⟨p, q, hA0, hV, rfl, hfz, hnd⟩ := hW
  have hA : DataW.TrodAll enc Try.prog W 0 (fun _ => true) true Try.f3.params.toList args.toList ds p := hA0
  rw [Try.params3] at hA hval
  obtain ⟨v0, v1, d0, d1, p0, p1, rfl, rfl, rfl, h0, h1⟩ := trodAll_two hA
  obtain ⟨rfl, rfl⟩ := trodVars_none hV
  obtain ⟨a, rfl, rfl, rfl, wa⟩ := open_int Try.underlying3 (hval 0 3 v0 rfl rfl) h0
  obtain ⟨b, rfl, rfl, rfl, wb⟩ := open_int Try.underlying3 (hval 1 3 v1 rfl rfl) h1
  obtain ⟨h', hev⟩ := he a b
  refine (law_calls hG hev (W := W) (cargs := #[.int .i64 a, .int .i64 b]) ⟨_, _, rfl, rfl, _, _, rfl, rfl, rfl⟩).mono ?_
  rintro e W' ⟨cv, ρ', I', rfl, hv, hk⟩
  have hv : cv = .bool true := hv
  subst hv
  exact ⟨_, rfl, post_true laidOut hW' rfl (tb := 4) (by kernel_rfl) Try.underlying4 readable rfl rfl rfl hk⟩

theorem row {prims : FuncId → Option Prim} (hG : CtxOk Try.prog (mkG Try.prog hintOf modeOf prims))
    (he : ∀ a b : Int, ∃ h', acall (mkG Try.prog hintOf modeOf prims) 100 .W 3 [.int .i64 a, .int .i64 b] AH.empty = some (.bool true, h')) : Rows.ChainNoneSaid :=
  OpenClaim.holds_of_wide 3 Try.f3 rfl rfl rfl rfl rfl rfl rfl ⟨rfl, rfl, rfl, rfl, rfl⟩ rfl rfl rfl rfl rfl (by kernel_rfl) Try.func3 (by kernel_rfl)
    (of_decide_eq_true (by kernel_rfl)) (by unfold Func.isWrapper; first | (rw [if_pos (by decide +kernel)]; kernel_rfl) | (rw [if_neg (by decide +kernel)]; exact ⟨rfl, rfl⟩))
    (fun os started H enc _ => lifted hG he os started H enc)
end Go.Proofs.Yticmjjeicpejcaa
