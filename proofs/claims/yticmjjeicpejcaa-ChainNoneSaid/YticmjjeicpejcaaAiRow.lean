/-
  From what the abstract call says to the row of a law.
-/
import Derived.Test.YticmjjeicpejcaaAiCall2
import Derived.ProofKit
set_option linter.unusedVariables false
set_option linter.unusedSimpArgs false
namespace Go.Ai
open Go.ChangeShapes Go.WideShapes Go.ChangeAt Go.RowKit

/-- Nothing that was there has changed. -/
structure Left1 (W W' : World) : Prop where
  quiet : Quiet W W'
  size : W.heap.size ≤ W'.heap.size
  block : ∀ b, b < W.heap.size → W'.heap[b]? = W.heap[b]?

/-- A law's call, out of the abstract one. -/
theorem law_calls {P : Program} {G : Ctx} (hG : CtxOk P G) {k : Nat} {cl : Cls} {f : FuncId} {avs : List AV} {v : AV} {h' : AH} (he : acall G k cl f avs AH.empty = some (v, h')) {W : World} {cargs : Array Value}
    (hargs : RVs (fun _ => none) (· < W.heap.size) W.heap avs cargs.toList) :
    Calls P f cargs W fun e W' => ∃ cv ρ' I', e = .returned cv ∧ RV ρ' I' W'.heap v cv ∧ Left1 W W' := by
  obtain ⟨_, _, _, h4⟩ := acall_ok hG k cl f avs AH.empty v h' he
  refine (h4 (fun _ => none) (· < W.heap.size) W cargs ⟨⟨fun b h => h, fun id b o h => by (cases h), fun id b o ob h => by (cases h), fun id id' b o o' h => by (cases h)⟩, fun _ _ => rfl, Nat.le_refl _⟩ (fun _ _ _ => rfl) hargs).mono ?_
  rintro e W' ⟨cv, ρ', I', rfl, h5, h6, h7⟩
  exact ⟨cv, ρ', I', rfl, h5, h7, h6.size, fun b hb => h6.frame b hb (fun ⟨id, o, h, _⟩ => by (cases h))⟩

section
variable {H : Type} {enc : TypeId × Value → H} {P : Program} {W W' : World}

theorem Left1.keptBut (h : Left1 W W') (may : MemPlace → Prop) : W.keptBut W' may := by
  refine ⟨h.quiet.os, h.quiet.output, fun i hi => ?_⟩
  rw [h.block i hi]
  cases W.heap[i]? with
  | none => rfl
  | some o =>
    cases o <;> first
      | exact ⟨rfl, rfl, rfl, fun _ _ => rfl⟩
      | exact .inr ⟨rfl, rfl⟩
      | rfl

theorem Left1.sameAt (h : Left1 W W') {p : MemPlace} (hp : p.block < W.heap.size) : W.sameAt W' p := by
  cases p with
  | cell b off =>
    have : W'.heap[b]? = W.heap[b]? := h.block b hp
    simp only [World.sameAt, World.cell?, this]
  | map b => exact h.block b hp

theorem Left1.frozen (h : Left1 W W') {b off : Nat} (hp : b < W.heap.size) : W'.frozen? ⟨b, off, none⟩ = W.frozen? ⟨b, off, none⟩ := by
  simp only [World.frozen?, h.block b hp]

theorem trodAll_stays (hl : laidOutB P = true) : ∀ {ts : List TypeId} {vs : List Value} {ds : List (DataW H)} {ps : List MemPlace}, (∀ t ∈ ts, P.readableRec t = true ∧ t < P.types.size) →
    ∀ {base : Nat} {sp' : Nat → Bool}, DataW.TrodAll enc P W base (fun _ => true) true ts vs ds ps → (∀ p ∈ ps, W.sameAt W' p) → (∀ p ∈ ps, sp' p.block = true) → DataW.TrodAll enc P W' base sp' true ts vs ds ps
  | [], vs, ds, ps, _, base, sp', h, _, _ => by
    obtain ⟨rfl, rfl, rfl⟩ := trodAll_nil h
    rfl
  | t :: ts, vs, ds, ps, ht, base, sp', h, hsame, hs => by
    obtain ⟨v, vs', d, ds', p, q, rfl, rfl, rfl, h1, h2⟩ := trodAll_cons h
    obtain ⟨g1, g2⟩ := ht t (List.mem_cons_self ..)
    exact ⟨p, q, Go.WideElems.Trod_stays hl g1 g2 h1 (fun x hx => hsame x (List.mem_append.2 (.inl hx))) (fun x hx => hs x (List.mem_append.2 (.inl hx))),
      trodAll_stays hl (fun t h => ht t (List.mem_cons_of_mem _ h)) h2 (fun x hx => hsame x (List.mem_append.2 (.inr hx))) (fun x hx => hs x (List.mem_append.2 (.inr hx))), rfl⟩

/-- The law's answer is true, and what came in reads as it did. -/
theorem post_true (hl : laidOutB P = true) {f : Func} {s : ChangeSpec} {apart fresh handsOn again : Bool} {args : Array Value} {ds gs : List (DataW H)} {before : List MemPlace}
    (hW : DataW.Whole enc P f.params.toList s.vars apart W args.toList ds gs before) (hvars : s.vars = []) {tb : TypeId} (hres : f.resultTypes = #[tb]) (htb : P.underlying tb = some .bool)
    (hread : ∀ t ∈ f.params.toList, P.readableRec t = true ∧ t < P.types.size)
    (e1 : (s.fn H (ds ++ gs)).results = [.lit (.bool true)]) (e2 : (s.fn H (ds ++ gs)).args = ds) (e3 : (s.fn H (ds ++ gs)).vars = []) (hk : Left1 W W') :
    s.post enc P f apart fresh handsOn again W args (.bool true) W' := by
  have hlt := hW.lt
  have hW' := hW
  obtain ⟨p, q, hA, hV, rfl, hz, hn⟩ := hW
  rw [hvars] at hV
  obtain ⟨rfl, rfl⟩ := trodVars_none hV
  rw [List.append_nil] at hlt hz
  have hsame : ∀ x ∈ p, W.sameAt W' x := fun x hx => hk.sameAt (hlt x hx)
  have hargs : ∀ sp : Nat → Bool, (∀ x ∈ p, sp x.block = true) → DataW.TrodAll enc P W' 0 sp true f.params.toList args.toList ds p := fun sp hs => trodAll_stays hl hread hA hsame hs
  have hr : ∀ (b : Nat) (sp : Nat → Bool) (hd : Bool), DataW.TrodAll enc P W' b sp hd f.resultTypes.toList ((Value.bool true).resultList f.resultTypes.size) (s.fn H (ds ++ [])).results [] := by
    intro b sp hd
    rw [e1, hres]
    exact ⟨[], [], shut_bool htb true, rfl, rfl⟩
  refine ⟨ds, [], p ++ [], [], p, [], hW', hr _ _ _, ?_, ?_, World.keptBut_mono (fun x hx => ⟨hx, .inr (.inl (by simpa using hx))⟩) (hk.keptBut (· ∈ p ++ [])), fun _ => ⟨?_, ?_⟩⟩
  · rw [e2]
    exact hargs _ (fun x hx => by simpa using hlt x hx)
  · rw [hvars, e3]
    rfl
  · exact ok_one hres rfl (okWide_bool_mk htb true)
  · refine ⟨_, [], ([] ++ p) ++ [], ⟨[] ++ p, [], trodAll_append (hargs _ (fun _ _ => rfl)) (hr _ _ _), by rw [hvars]; rfl, rfl, ?_, ?_⟩, fun x hx _ => by simpa using hx⟩
    · intro b off hx
      have hx' : MemPlace.cell b off ∈ p := by simpa using hx
      rw [hk.frozen (b := b) (hlt _ hx')]
      exact hz b off hx'
    · intro ha
      have := hn ha
      simpa using this
end
end Go.Ai
