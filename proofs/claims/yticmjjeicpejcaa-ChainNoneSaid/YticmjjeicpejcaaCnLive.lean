/-
  (*Chain).Live, as a primitive: its walk, over slices.Sorted(maps.Keys(m)).
-/
import Derived.Test.YticmjjeicpejcaaCnDelOk
import Derived.Shelf.SlIterI.Sorted
import Derived.Shelf.SortM.Plain
import Derived.Shelf.SortM.SortNone
set_option linter.unusedVariables false
set_option linter.unusedSimpArgs false
namespace Go.Proofs
open Go.RowKit Go.Maps Go.Sort Go.Shelf

def Try.keysA_ren : Go.Shelf.Ren := ⟨fun | 7 => 19 | 10 => 32 | n => n, fun | 23 => 23 | 26 => 3 | 3 => 52 | 28 => 57 | 0 => 0 | 27 => 56 | 33 => 76 | 4 => 4 | n => n, fun | n => n⟩
theorem Try.keysA : Go.Proofs.SlLaysZI.n7 Try.prog Try.keysA_ren := {
    mixed := by kernel_rfl
    f7 := ⟨Try.f19.name, by decide, Try.func19.trans (congrArg some (by kernel_rfl))⟩
    f10 := ⟨Try.f32.name, by decide, Try.func32.trans (congrArg some (by kernel_rfl))⟩
    t0 := Try.underlying0
    a0 := Try.isAgg0
    z0 := Try.sizeOf0
    v0 := Try.zeroValue0
    t4 := Try.underlying4
    a4 := Try.isAgg4
    z4 := Try.sizeOf4
    v4 := Try.zeroValue4
    t23 := Try.underlying23
    a23 := Try.isAgg23
    z23 := Try.sizeOf23
    v23 := Try.zeroValue23
    t26 := Try.underlying3
    a26 := Try.isAgg3
    z26 := Try.sizeOf3
    v26 := Try.zeroValue3
    t27 := Try.underlying56
    a27 := Try.isAgg56
    z27 := Try.sizeOf56
    v27 := Try.zeroValue56
    t28 := Try.underlying57
    a28 := Try.isAgg57
    z28 := Try.sizeOf57
    v28 := Try.zeroValue57
    t33 := Try.underlying76
    a33 := Try.isAgg76
    z33 := Try.sizeOf76
    v33 := Try.zeroValue76
    }

def Try.sortedA_ren : Go.Shelf.Ren := ⟨fun | 6 => 18 | 8 => 30 | 9 => 31 | 11 => 41 | 13 => 40 | 12 => 42 | 23 => 56 | 24 => 57 | 14 => 58 | 15 => 59 | 16 => 60 | 17 => 61 | 18 => 62 | 19 => 63 | 20 => 64 | 21 => 65 | 22 => 66 | 25 => 78 | 26 => 73 | 27 => 74 | 28 => 79 | 29 => 80 | 30 => 81 | 31 => 83 | n => n, fun | 26 => 3 | 28 => 57 | 24 => 41 | 0 => 0 | 3 => 3 | 37 => 96 | 48 => 112 | 50 => 114 | 4 => 4 | 40 => 105 | 39 => 104 | 45 => 49 | 5 => 5 | 9 => 9 | 51 => 125 | 55 => 129 | 57 => 134 | 58 => 135 | 33 => 76 | n => n, fun | n => n⟩
theorem Try.sortedA : Go.Proofs.SlLaysZI.n6 Try.prog Try.sortedA_ren := {
    mixed := by kernel_rfl
    f6 := ⟨Try.f18.name, by decide, Try.func18.trans (congrArg some (by kernel_rfl))⟩
    f8 := ⟨Try.f30.name, by decide, Try.func30.trans (congrArg some (by kernel_rfl))⟩
    f11 := ⟨Try.f41.name, by decide, Try.func41.trans (congrArg some (by kernel_rfl))⟩
    t0 := Try.underlying0
    a0 := Try.isAgg0
    z0 := Try.sizeOf0
    v0 := Try.zeroValue0
    t24 := Try.underlying41
    a24 := Try.isAgg41
    z24 := Try.sizeOf41
    v24 := Try.zeroValue41
    t26 := Try.underlying3
    a26 := Try.isAgg3
    z26 := Try.sizeOf3
    v26 := Try.zeroValue3
    t28 := Try.underlying57
    a28 := Try.isAgg57
    z28 := Try.sizeOf57
    v28 := Try.zeroValue57
    i26 := by kernel_rfl
    }

def Try.sortA_ren : Go.Shelf.Ren := ⟨fun | 5 => 31 | 8 => 40 | 7 => 42 | 19 => 56 | 20 => 57 | 10 => 58 | 11 => 59 | 12 => 60 | 13 => 61 | 14 => 62 | 15 => 63 | 16 => 64 | 17 => 65 | 18 => 66 | 30 => 78 | 31 => 73 | 32 => 74 | 33 => 79 | 34 => 80 | 35 => 81 | 40 => 83 | n => n, fun | 23 => 41 | 25 => 3 | 3 => 3 | 32 => 96 | 22 => 41 | 0 => 0 | 44 => 112 | 46 => 114 | 4 => 4 | 36 => 105 | 35 => 104 | 41 => 49 | 5 => 5 | 9 => 9 | 53 => 125 | 57 => 129 | 63 => 134 | 64 => 135 | n => n, fun | n => n⟩
theorem Try.sortA : Go.Proofs.SlLaysM.n5 Try.prog Try.sortA_ren := {
    mixed := by kernel_rfl
    f5 := ⟨Try.f31.name, by decide, Try.func31.trans (congrArg some (by kernel_rfl))⟩
    f7 := ⟨Try.f42.name, by decide, Try.func42.trans (congrArg some (by kernel_rfl))⟩
    f8 := Try.func40.trans (congrArg some (by kernel_rfl))
    f10 := ⟨Try.f58.name, by decide, Try.func58.trans (congrArg some (by kernel_rfl))⟩
    f11 := ⟨Try.f59.name, by decide, Try.func59.trans (congrArg some (by kernel_rfl))⟩
    f12 := ⟨Try.f60.name, by decide, Try.func60.trans (congrArg some (by kernel_rfl))⟩
    f13 := ⟨Try.f61.name, by decide, Try.func61.trans (congrArg some (by kernel_rfl))⟩
    f14 := ⟨Try.f62.name, by decide, Try.func62.trans (congrArg some (by kernel_rfl))⟩
    f15 := ⟨Try.f63.name, by decide, Try.func63.trans (congrArg some (by kernel_rfl))⟩
    f16 := ⟨Try.f64.name, by decide, Try.func64.trans (congrArg some (by kernel_rfl))⟩
    f17 := ⟨Try.f65.name, by decide, Try.func65.trans (congrArg some (by kernel_rfl))⟩
    f18 := ⟨Try.f66.name, by decide, Try.func66.trans (congrArg some (by kernel_rfl))⟩
    f19 := Try.func56.trans (congrArg some (by kernel_rfl))
    f20 := Try.func57.trans (congrArg some (by kernel_rfl))
    f30 := ⟨Try.f78.name, by decide, Try.func78.trans (congrArg some (by kernel_rfl))⟩
    f31 := Try.func73.trans (congrArg some (by kernel_rfl))
    f32 := Try.func74.trans (congrArg some (by kernel_rfl))
    f33 := ⟨Try.f79.name, by decide, Try.func79.trans (congrArg some (by kernel_rfl))⟩
    f34 := ⟨Try.f80.name, by decide, Try.func80.trans (congrArg some (by kernel_rfl))⟩
    f35 := ⟨Try.f81.name, by decide, Try.func81.trans (congrArg some (by kernel_rfl))⟩
    f40 := ⟨Try.f83.name, by decide, Try.func83.trans (congrArg some (by kernel_rfl))⟩
    t0 := Try.underlying0
    a0 := Try.isAgg0
    z0 := Try.sizeOf0
    v0 := Try.zeroValue0
    t3 := Try.underlying3
    a3 := Try.isAgg3
    z3 := Try.sizeOf3
    v3 := Try.zeroValue3
    t4 := Try.underlying4
    a4 := Try.isAgg4
    z4 := Try.sizeOf4
    v4 := Try.zeroValue4
    t5 := Try.underlying5
    a5 := Try.isAgg5
    z5 := Try.sizeOf5
    v5 := Try.zeroValue5
    t9 := Try.underlying9
    a9 := Try.isAgg9
    z9 := Try.sizeOf9
    v9 := Try.zeroValue9
    t22 := Try.underlying41
    a22 := Try.isAgg41
    z22 := Try.sizeOf41
    v22 := Try.zeroValue41
    t23 := Try.underlying41
    a23 := Try.isAgg41
    z23 := Try.sizeOf41
    v23 := Try.zeroValue41
    t25 := Try.underlying3
    a25 := Try.isAgg3
    z25 := Try.sizeOf3
    v25 := Try.zeroValue3
    t32 := Try.underlying96
    a32 := Try.isAgg96
    z32 := Try.sizeOf96
    v32 := Try.zeroValue96
    t35 := Try.underlying104
    a35 := Try.isAgg104
    z35 := Try.sizeOf104
    v35 := Try.zeroValue104
    t36 := Try.underlying105
    a36 := Try.isAgg105
    z36 := Try.sizeOf105
    v36 := Try.zeroValue105
    t41 := Try.underlying49
    a41 := Try.isAgg49
    z41 := Try.sizeOf49
    v41 := Try.zeroValue49
    t44 := Try.underlying112
    a44 := Try.isAgg112
    z44 := Try.sizeOf112
    v44 := Try.zeroValue112
    t46 := Try.underlying114
    a46 := Try.isAgg114
    z46 := Try.sizeOf114
    v46 := Try.zeroValue114
    t53 := Try.underlying125
    a53 := Try.isAgg125
    z53 := Try.sizeOf125
    v53 := Try.zeroValue125
    t57 := Try.underlying129
    a57 := Try.isAgg129
    z57 := Try.sizeOf129
    v57 := Try.zeroValue129
    t63 := Try.underlying134
    a63 := Try.isAgg134
    z63 := Try.sizeOf134
    v63 := Try.zeroValue134
    t64 := Try.underlying135
    a64 := Try.isAgg135
    z64 := Try.sizeOf135
    v64 := Try.zeroValue135
    }

/-- slices.Sort's two contracts at this program. -/
theorem Try.sortsA (m : Nat) : AnyZI.SortsIn Try.prog Try.sortedA_ren Fence.wide m :=
  ⟨fun blk off cap ss W hH hblk hsz => callsIn_wide.2 (AnyM.slices_Sort_int Try.sortA blk off cap ss W hH hblk hsz),
   fun p cap W => callsIn_wide.2 (AnyM.slices_Sort_int_none Try.sortA p cap W)⟩

/-- maps.Keys, and slices.Sorted of it. -/
theorem Try.keys_calls (mb : Option Nat) (W : World) : Calls Try.prog 19 #[.map mb] W fun e w' => e = .returned (.func (.func 32) #[] #[.pointer (some ⟨W.heap.size, 0, none⟩)]) ∧ w' = W.alloc (.cells #[.map mb] 23) :=
  (callsIn_wide (n := 5)).1 (AnyZI.keys_in Try.keysA Fence.wide 5 trivial rfl mb W)

theorem Try.sorted_calls {H : Type} (b nn : Nat) (D0 : DataW H) (R : Value → Option (DataW H × List MemPlace)) (w : World) (hown : w.ownsMap Try.prog 3 R b nn D0) (hmax : Maps.size D0 ≤ maxLen) (hbytes : Maps.size D0 * 8 ≤ 140737488355328) :
    Calls Try.prog 18 #[.func (.func 32) #[] #[.pointer (some ⟨w.heap.size, 0, none⟩)]] (w.alloc (.cells #[.map (some b)] 23)) fun e w' => ∃ (v : Value) (ss : List Int), e = .returned v ∧ ss.Perm (intKeys D0) ∧
      w'.ownsRow w.heap.size 3 1 v ss.length ((ss.mergeSort (fun x y => decide (x ≤ y))).map encZ) ∧ (v = .slice none 0 0 ↔ ss = []) ∧ Below w.heap.size w w' := by
  refine (callsIn_wide (n := 5)).1 ?_
  have hbl := hown.lt
  have hseq : SeqGives Fence.wide 2 Try.prog 32 #[.pointer (some ⟨w.heap.size, 0, none⟩)] encZ (fun ss => ss.Perm (intKeys D0)) (Maps.size D0) (w.alloc (.cells #[.map (some b)] 23)) :=
    AnyZI.keys_gives (ρ := Try.keysA_ren) { Try.keysA with } Fence.wide _ trivial rfl (by omega) w.heap.size b nn D0 _ (by simp) (by simp) (by
      obtain ⟨es, clock, hb, Ft, hs, hD⟩ := hown
      exact ⟨es, clock, (Below.heap_alloc _ _ b hbl).trans hb, Ft, hs, hD⟩)
  have cS := AnyZI.sorted_in Try.sortedA Fence.wide 5 trivial trivial trivial trivial rfl (by omega) (Try.sortsA _) (enters_of Try.func31 (by kernel_rfl) rfl) 32 #[.pointer (some ⟨w.heap.size, 0, none⟩)] trivial (enters_of Try.func32 (by kernel_rfl) rfl) _ _ hmax hbytes _ hseq
  change CallsIn _ _ Try.prog 18 _ _ _ at cS
  refine cS.mono ?_
  rintro e w' ⟨v, ss, rfl, hS, hrow, hnil, hb⟩
  exact ⟨v, ss, rfl, hS, ownsRow_base_a hrow (by simp), hnil, ((Below.refl _ w).alloc (Nat.le_refl _) _).trans (hb.mono (by simp))⟩
end Go.Proofs

namespace Go.Proofs.Yticmjjeicpejcaa
open Go.Ai

theorem res8 (t : Array Value) (W : World) : (Go.results Try.f8 t).run Try.prog W = .ok (t.getD 2 undef) W := by
  have h : Try.f8.results = #[.tmp 2] := rfl
  simp [Go.results, h]

theorem live_calls {w : World} {X : Value} {Q : Value → World → Prop}
    (h14 : Calls Try.prog 14 #[X] w fun e w1 => ∃ t, e = .returned (.bool t) ∧ (t = true → Q (.slice none 0 0) w1) ∧ (t = false → ∃ b o m, X = .pointer (some ⟨b, o, none⟩) ∧ w1.cell? ⟨b, o, none⟩ = some (.map m) ∧
      Calls Try.prog 19 #[.map m] w1 fun e w2 => ∃ fv, e = .returned fv ∧ Calls Try.prog 18 #[fv] w2 fun e w3 => ∃ v, e = .returned v ∧ Q v w3)) :
    Calls Try.prog 8 #[X] w fun e w' => ∃ v, e = .returned v ∧ Q v w' := by
  refine calls_tmps Try.func8 rfl (t := #[X, undef, undef, undef, undef, undef, undef, undef, undef, undef, undef]) (by kernel_rfl) ?_
  refine wp_seq (wp_region ?_)
  refine ops_val rfl rfl (v := .slice none 0 0) (w' := w) rfl ?_
  refine wp_seq (wp_seq (wp_region ?_))
  refine ops_val rfl rfl (v := X) (w' := w) (by kernel_rfl) ?_
  refine ops_call rfl rfl (f := 14) (args := #[X]) (R := fun v w1 => ∃ t, v = .bool t ∧ (t = true → Q (.slice none 0 0) w1) ∧ (t = false → ∃ b o m, X = .pointer (some ⟨b, o, none⟩) ∧ w1.cell? ⟨b, o, none⟩ = some (.map m) ∧
      Calls Try.prog 19 #[.map m] w1 fun e w2 => ∃ fv, e = .returned fv ∧ Calls Try.prog 18 #[fv] w2 fun e w3 => ∃ v, e = .returned v ∧ Q v w3)) ?_ (h14.mono ?_) ?_
  · rw [show execOp _ _ = callFunc 14 #[X] by kernel_rfl]
    exact run_callFunc Try.func14 rfl (by decide) _
  · rintro e w1 ⟨t, rfl, h1, h2⟩
    exact ⟨_, rfl, t, rfl, h1, h2⟩
  rintro v w1 ⟨t, rfl, h1, h2⟩
  cases t with
  | true =>
    refine (wp_cond (t := true) (by kernel_rfl) (wp_seq (wp_region ?_)))
    refine ops_val rfl rfl (v := .slice none 0 0) (w' := w1) rfl ?_
    refine wp_ret ?_
    exact ⟨rfl, .slice none 0 0, (res8 _ _).trans (by kernel_rfl), _, rfl, h1 rfl⟩
  | false =>
    obtain ⟨b, o, m, rfl, hm, h3⟩ := h2 rfl
    refine (wp_cond (t := false) (by kernel_rfl) (wp_skip ?_))
    refine wp_seq (wp_region ?_)
    refine ops_val rfl rfl (v := .pointer (some ⟨b, o, none⟩)) (w' := w1) (by kernel_rfl) ?_
    refine ops_val rfl rfl (v := .pointer (some ⟨b, o, none⟩)) (w' := w1) (by kernel_rfl) ?_
    refine ops_val rfl rfl (v := .pointer (some ⟨b, o + 0, none⟩)) (w' := w1) (by kernel_rfl) ?_
    refine ops_val rfl rfl (v := .map m) (w' := w1) (exec_v (s := loadVar 23 ⟨b, o + 0, none⟩) (by kernel_rfl) ?_) ?_
    · simp [loadVar, run_isAgg' Try.underlying23, isAggD, run_load, hm]
    refine ops_call rfl rfl (f := 19) (args := #[.map m]) ?_ h3 ?_
    · rw [show execOp _ _ = callFunc 19 #[.map m] by kernel_rfl]
      exact run_callFunc Try.func19 rfl (by decide) _
    intro fv w2 h4
    refine ops_call rfl rfl (f := 18) (args := #[fv]) ?_ h4 ?_
    · rw [show execOp _ _ = callFunc 18 #[fv] by kernel_rfl]
      exact run_callFunc Try.func18 rfl (by decide) _
    intro v w3 hQ
    refine ops_val rfl rfl (v := v) (w' := w3) (by kernel_rfl) ?_
    refine wp_ret ?_
    exact ⟨rfl, v, (res8 _ _).trans (by kernel_rfl), _, rfl, hQ⟩
end Go.Proofs.Yticmjjeicpejcaa
