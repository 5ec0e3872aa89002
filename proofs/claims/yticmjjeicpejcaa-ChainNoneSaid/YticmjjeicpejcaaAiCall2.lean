/-
  Calls: what the abstract call gives, the model's call returns.
-/
import Derived.Test.YticmjjeicpejcaaAiCall
set_option linter.unusedVariables false
set_option linter.unusedSimpArgs false
namespace Go.Ai
section
variable {ρ : Rho} {I : Nat → Prop} {P : Program} {h h' : AH} {w : World} {sl : List AV} {a : Act} {hp : Hp}

/-- What a call's end says. -/
def Post (ρ : Rho) (I : Nat → Prop) (h : AH) (w : World) (v : AV) (h' : AH) (e : Ending) (w' : World) : Prop :=
  ∃ cv ρ' I', e = .returned cv ∧ RV ρ' I' w'.heap v cv ∧ Ext ρ I h w.heap ρ' I' h' w'.heap ∧ Quiet w w'

theorem slots_start {args : List AV} {cargs : Array Value} (hr : RVs ρ I hp args cargs.toList) (n : Nat) :
    Slots ρ I hp (args ++ List.replicate (n - args.length) .undef) { tmps := cargs ++ Array.replicate (n - cargs.size) undef, defers := [] } := by
  have hl := RVs_length _ _ hr
  rw [Array.length_toList] at hl
  refine ⟨by simp [hl], fun i => ?_⟩
  by_cases hi : i < args.length
  · obtain ⟨v, h1, h2⟩ := RVs_get _ _ hr i args[i] (List.getElem?_eq_getElem hi)
    have e1 : (args ++ List.replicate (n - args.length) AV.undef).getD i .undef = args[i] := by
      simp [List.getD, List.getElem?_append_left hi, List.getElem?_eq_getElem hi]
    have e2 : (cargs ++ Array.replicate (n - cargs.size) undef).getD i undef = v := by
      rw [Array.getD_eq_getD_getElem?, Array.getElem?_append_left (by omega)]
      rw [Array.getElem?_toList] at h1
      rw [h1]
      rfl
    rw [e1]
    simp only
    rw [e2]
    exact h2
  · have e1 : (args ++ List.replicate (n - args.length) AV.undef).getD i .undef = .undef := by
      simp only [List.getD, List.getElem?_append_right (Nat.le_of_not_lt hi), List.getElem?_replicate]
      split <;> rfl
    rw [e1]
    trivial

theorem runBody_sound {call : CallFn} (hcall : CallOk P call) (hm : P.follows .mixedOrders = true) {hint : Hints} {k : Nat} {f : FuncId} {fn : Func} {mode : Mode} {afn : AFn} (hf : P.funcs[f]? = some fn) (hc : comp P hint mode fn = some afn)
    {args : List AV} {v : AV} (hr : runBody call k afn args h = some (v, h')) {cargs : Array Value} (ok : Ok ρ I h w.heap) (hn : ∀ id, h.next ≤ id → id < h'.next → ρ id = none) (hargs : RVs ρ I w.heap args cargs.toList) :
    Calls P f cargs w (Post ρ I h w v h') := by
  unfold comp at hc
  obtain ⟨c, hb, hc⟩ := bind_some' hc
  obtain ⟨ac, hac, hc⟩ := bind_some' hc
  obtain ⟨rs, hrs, rfl⟩ := map_some' hc
  unfold runBody at hr
  obtain ⟨r, h1, hr⟩ := bind_some' hr
  obtain ⟨e1, st'⟩ := r
  simp only at hr
  have hres : (results st' rs).map (fun v => (v, st'.h)) = some (v, h') ∧ (e1 = .normal ∨ e1 = .ret) := by
    cases e1 with
    | normal => exact ⟨hr, .inl rfl⟩
    | ret => exact ⟨hr, .inr rfl⟩
    | exit id => cases hr
  obtain ⟨hres, he1⟩ := hres
  obtain ⟨v', hv, e⟩ := map_some' hres
  cases e
  refine calls_of_wp hf hb (wp_mono (exec_sound hcall hm k c ac hac _ st' e1 _ w ρ I h1 ok hn (slots_start hargs fn.ntmps) rfl) ?_)
  rintro e' a' w' ⟨rfl, ρ1, I1, r1, r2, r3, r4⟩
  obtain ⟨cv, c1, c2⟩ := results_sound (P := P) (fn := fn) hrs (ok.next r3) r1 hv
  rcases he1 with rfl | rfl
  · exact ⟨r2, cv, c1, cv, ρ1, I1, rfl, c2, r3, r4⟩
  · exact ⟨r2, cv, c1, cv, ρ1, I1, rfl, c2, r3, r4⟩

/-- A run that could not write what was there: its start. -/
structure Start (ρ : Rho) (I : Nat → Prop) (h : AH) (hp : Hp) (ρs : Rho) (start : AH) : Prop where
  ok : Ok ρs I start hp
  lock : start.lock = start.next
  nextle : start.next ≤ h.next
  old : ∀ id, id < start.next → ρs id = ρ id
  none : ∀ b, ¬ Own ρs start b

theorem Start.empty (ok : Ok ρ I h hp) : Start ρ I h hp (fun _ => Option.none) AH.empty where
  ok := ⟨⟨ok.rel.imm, fun id b o h1 => by (cases h1), fun id b o ob h1 => by (cases h1), fun id id' b o o' h1 => by (cases h1)⟩, fun _ _ => rfl, Nat.le_refl _⟩
  lock := rfl
  nextle := Nat.zero_le _
  old := fun id hid => absurd hid (Nat.not_lt_zero _)
  none := fun b ⟨id, o, h1, _⟩ => by cases h1

theorem Start.locked (ok : Ok ρ I h hp) : Start ρ I h hp ρ ⟨h.heap, h.next, h.next⟩ where
  ok := ⟨ok.rel, ok.fresh, Nat.le_refl _⟩
  lock := rfl
  nextle := Nat.le_refl _
  old := fun _ _ => rfl
  none := fun b ⟨id, o, h1, h2, h3⟩ => h2 (ok.fresh id h3)

/-- What the run has made may be read as immutable, and nothing else has changed. -/
theorem start_thaw {ρs ρ1 : Rho} {I1 : Nat → Prop} {start h1 : AH} {hp' : Hp} (hs : Start ρ I h hp ρs start) (he : Ext ρs I start hp ρ1 I1 h1 hp') :
    Thaw ρ1 ρ I1 (fun b => I b ∨ (hp.size ≤ b ∧ b < hp'.size)) h1.heap start.next hp' where
  imm := fun b hb => by
    by_cases hlt : b < hp.size
    · rcases he.own b hlt hb with g | g
      · exact .inl g
      · exact absurd g (hs.none b)
    · exact .inr ⟨by omega, he.rel.imm b hb⟩
  old := fun id hid => by rw [he.rho id (by omega), hs.old id hid]
  new := fun id b o ob hlo hρ hob => by
    have hlt := he.rel.block_lt (h := h1) hρ (by rw [hob]; simp)
    refine ⟨.inr ⟨?_, hlt⟩, he.rel.obj id b o ob hρ hob⟩
    rcases Nat.lt_or_ge b hp.size with g | g
    · have hid : id < h1.next := by
        rcases Nat.lt_or_ge id h1.next with k | k
        · exact k
        · rw [he.fresh id k] at hob; cases hob
      exact absurd (he.ownρ id b o hlo hid hρ g) (hs.none b)
    · exact g

theorem start_frame {ρs ρ1 : Rho} {I1 : Nat → Prop} {start h1 : AH} {hp' : Hp} (hs : Start ρ I h hp ρs start) (he : Ext ρs I start hp ρ1 I1 h1 hp') : ∀ b, b < hp.size → hp'[b]? = hp[b]? :=
  fun b hb => he.frame b hb (hs.none b)

theorem start_ext {ρs ρ1 : Rho} {I1 : Nat → Prop} {start h1 : AH} {hp' : Hp} (ok : Ok ρ I h hp) (hs : Start ρ I h hp ρs start) (he : Ext ρs I start hp ρ1 I1 h1 hp') {n : Nat} (hn : h.next ≤ n) (hfree : ∀ id, h.next ≤ id → id < n → ρ id = Option.none) :
    Ext ρ I h hp ρ (fun b => I b ∨ (hp.size ≤ b ∧ b < hp'.size)) ⟨h.heap, n, h.lock⟩ hp' where
  rel := {
    imm := fun b hb => by
      rcases hb with hb | hb
      · have := ok.rel.imm b hb; have := he.size; omega
      · exact hb.2
    apart := fun id b o h1 h2 h3 => by
      rcases h3 with h3 | h3
      · exact ok.rel.apart id b o h1 h2 h3
      · have := ok.rel.block_lt h1 h2; omega
    obj := fun id b o ob h1 h2 => by
      have hlt := ok.rel.block_lt (h := h) h1 (by simp only at h2; rw [h2]; simp)
      exact ObjOk_mono (fun _ _ h => h) (fun _ h => .inl h) (fun j hj => start_frame hs he j (ok.rel.imm j hj)) he.shape (start_frame hs he b hlt) (ok.rel.obj id b o ob h1 h2)
    inj := ok.rel.inj }
  next := hn
  lock := rfl
  rho := fun _ _ => rfl
  imm := fun _ h => .inl h
  own := fun b hb h1 => by
    rcases h1 with h1 | h1
    · exact .inl h1
    · omega
  ownρ := fun id b o h1 h2 h3 hb => by
    rw [hfree id h1 h2] at h3
    cases h3
  size := he.size
  frame := fun b hb _ => start_frame hs he b hb
  shape := he.shape
  dead := fun _ _ h => h
  low := fun _ _ => rfl
  fresh := fun id hid => ok.fresh id (by simp only at hid; omega)

theorem deep_does {ρs ρ1 : Rho} {I1 : Nat → Prop} {start h1 : AH} {w' : World} (ok : Ok ρ I h w.heap) (hs : Start ρ I h w.heap ρs start) (he : Ext ρs I start w.heap ρ1 I1 h1 w'.heap) (hq : Quiet w w') {n : Nat} (hn : h.next ≤ n) (hfree : ∀ id, h.next ≤ id → id < n → ρ id = none)
    {v v' : AV} {cv : Value} (hd : deep h1.heap start.next depth v = some v') (hv : RV ρ1 I1 w'.heap v cv) : Post ρ I h w v' ⟨h.heap, n, h.lock⟩ (.returned cv) w' :=
  ⟨cv, ρ, _, rfl, deep_sound (start_thaw hs he) depth v v' cv hd hv, start_ext ok hs he hn hfree, hq⟩

/-- One array of the run's becomes the caller's own. -/
theorem adopt_ext {ρs ρ1 : Rho} {I1 : Nat → Prop} {start h1 : AH} {hp' : Hp} (ok : Ok ρ I h hp) (hs : Start ρ I h hp ρs start) (he : Ext ρs I start hp ρ1 I1 h1 hp') {n : Nat} (hn : h.next ≤ n) (hfree : ∀ id, h.next ≤ id → id < n + 1 → ρ id = Option.none)
    {id b o off m : Nat} {cs cs' : List AV} (hlo : start.next ≤ id) (hρ : ρ1 id = some (b, o)) (hob : h1.heap id = some (.cells cs))
    (ht : traverse (deep (h1.heap.put id Option.none) start.next depth) ((cs.drop off).take m) = some cs') :
    let I2 := fun x => (I x ∨ (hp.size ≤ x ∧ x < hp'.size)) ∧ x ≠ b
    Ext ρ I h hp (ρ.put n (b, o + off)) I2 ((⟨h.heap, n, h.lock⟩ : AH).new (.cells cs')) hp' ∧ Thaw ρ1 (ρ.put n (b, o + off)) I1 I2 (h1.heap.put id Option.none) start.next hp' := by
  intro I2
  have hth := start_thaw hs he
  obtain ⟨hb2, arr, E, us, g1, g2, g3⟩ := hth.new id b o _ hlo hρ hob
  have hbge : hp.size ≤ b := by
    rcases hb2 with hb2 | hb2
    · exfalso
      have hid : id < h1.next := by
        rcases Nat.lt_or_ge id h1.next with k | k
        · exact k
        · rw [he.fresh id k] at hob; cases hob
      exact hs.none b (he.ownρ id b o hlo hid hρ (ok.rel.imm b hb2))
    · exact hb2.1
  have hblt := block_lt g1
  have hIb : ¬ I1 b := he.rel.apart id b o hρ (by rw [hob]; simp)
  have hnone : ρ n = Option.none := hfree n hn (by omega)
  have hthaw : Thaw ρ1 (ρ.put n (b, o + off)) I1 I2 (h1.heap.put id Option.none) start.next hp' := {
    imm := fun x hx => ⟨hth.imm x hx, fun e => hIb (e ▸ hx)⟩
    old := fun j hj => by
      have := hs.nextle
      rw [← hth.old j hj]
      simp only [Rho.put]
      rw [if_neg (by omega)]
    new := fun j b' o' ob' hj h1' h2' => by
      have hne : j ≠ id := fun e => by subst e; rw [AHeap.put_same] at h2'; cases h2'
      rw [AHeap.put_ne _ _ hne] at h2'
      obtain ⟨k1, k2⟩ := hth.new j b' o' ob' hj h1' h2'
      refine ⟨⟨k1, fun e => hne (he.rel.inj j id b' o' o h1' (e ▸ hρ) (by rw [h2']; simp) (by rw [hob]; simp))⟩, k2⟩ }
  have hnew : ((⟨h.heap, n, h.lock⟩ : AH).new (.cells cs')).heap n = some (.cells cs') := AHeap.put_same _ _ _
  have hold : ∀ j, j ≠ n → ((⟨h.heap, n, h.lock⟩ : AH).new (.cells cs')).heap j = h.heap j := fun j hj => AHeap.put_ne _ _ hj
  have hρo : ∀ j, j ≠ n → (ρ.put n (b, o + off)) j = ρ j := fun j hj => by simp [Rho.put, hj]
  have hframe := start_frame hs he
  refine ⟨?_, hthaw⟩
  exact {
    rel := {
      imm := fun x hx => by
        rcases hx.1 with hx | hx
        · have := ok.rel.imm x hx; have := he.size; omega
        · exact hx.2
      apart := fun i b' o1 h1' h2' hI => by
        by_cases hi : i = n
        · subst hi
          simp [Rho.put] at h1'
          exact hI.2 h1'.1.symm
        · rw [hρo i hi] at h1'
          rw [hold i hi] at h2'
          rcases hI.1 with h3 | h3
          · exact ok.rel.apart i b' o1 h1' h2' h3
          · have := ok.rel.block_lt h1' h2'; omega
      obj := fun i b' o1 ob' h1' h2' => by
        by_cases hi : i = n
        · subst hi
          simp [Rho.put] at h1'
          obtain ⟨rfl, rfl⟩ := h1'
          rw [hnew] at h2'
          cases h2'
          refine ⟨arr, E, (us.drop off).take m, g1, ?_, ?_⟩
          · exact traverse_sound (deep_sound hthaw depth) _ _ _ ht (RVs_take (RVs_drop g2 off) m)
          · intro j v hv
            rw [List.getElem?_take] at hv
            split at hv
            · rw [List.getElem?_drop] at hv
              rw [Nat.add_assoc]
              exact g3 _ v hv
            · cases hv
        · rw [hρo i hi] at h1'
          rw [hold i hi] at h2'
          have hlt := ok.rel.block_lt (h := h) h1' (by rw [h2']; simp)
          refine ObjOk_mono (Rho.put_le hnone) (fun x hx => ⟨.inl hx, fun e => ?_⟩) (fun j hj => hframe j (ok.rel.imm j hj)) he.shape (hframe b' hlt) (ok.rel.obj i b' o1 ob' h1' h2')
          have := ok.rel.imm x hx
          omega
      inj := fun i j b' o1 o2 h1' h2' h3' h4' => by
        by_cases hi : i = n <;> by_cases hj : j = n
        · omega
        · subst hi
          simp [Rho.put] at h1'
          rw [hρo j hj] at h2'
          rw [hold j hj] at h4'
          have := ok.rel.block_lt h2' h4'
          omega
        · subst hj
          simp [Rho.put] at h2'
          rw [hρo i hi] at h1'
          rw [hold i hi] at h3'
          have := ok.rel.block_lt h1' h3'
          omega
        · rw [hρo i hi] at h1'
          rw [hρo j hj] at h2'
          rw [hold i hi] at h3'
          rw [hold j hj] at h4'
          exact ok.rel.inj i j b' o1 o2 h1' h2' h3' h4' }
    next := by simp only [AH.new]; omega
    lock := rfl
    rho := fun i hi => hρo i (by simp only [AH.new] at hi; omega)
    imm := fun x hx => ⟨.inl hx, fun e => by have := ok.rel.imm x hx; omega⟩
    own := fun x hx hI => by
      rcases hI.1 with h3 | h3
      · exact .inl h3
      · omega
    ownρ := fun i b' o1 h1' h2' h3' hb' => by
      simp only [AH.new] at h2'
      by_cases hi : i = n
      · subst hi
        simp [Rho.put] at h3'
        omega
      · rw [hρo i hi, hfree i h1' (by omega)] at h3'
        cases h3'
    size := he.size
    frame := fun x hx _ => hframe x hx
    shape := he.shape
    dead := fun i hi e => by rw [hold i (by omega)]; exact e
    low := fun i hi => hold i (by have := ok.lockle; omega)
    fresh := fun i hi => by
      simp only [AH.new] at hi
      rw [hold i (by omega)]
      exact ok.fresh i (by omega) }

/-- What is asked of a function that is known by its contract. -/
def OneOk (P : Program) (f : FuncId) (g : Cls → List AV → AH → Option (AV × AH)) : Prop :=
  ∀ cl args h v h', g cl args h = some (v, h') →
    Abs h h' ∧ (cl ≠ .W → ∀ id, id < h.next → h'.heap id = h.heap id) ∧
    (∃ fn, P.funcs[f]? = some fn ∧ fn.body.isSome = true ∧ fn.name ≠ "runtime.NumGoroutine") ∧
    ∀ (ρ : Rho) (I : Nat → Prop) (w : World) (cargs : Array Value), Ok ρ I h w.heap → (∀ id, h.next ≤ id → id < h'.next → ρ id = none) → RVs ρ I w.heap args cargs.toList →
      Calls P f cargs w (Post ρ I h w v h')

/-- The programs' context: each function is what the compiler makes of the model's, or is known by its contract. -/
structure CtxOk (P : Program) (G : Ctx) : Prop where
  follows : P.follows .mixedOrders = true
  fn : ∀ f afn, G f = some (.fn afn) → ∃ fn hint, P.funcs[f]? = some fn ∧ comp P hint afn.mode fn = some afn ∧ fn.name ≠ "runtime.NumGoroutine"
  prim : ∀ f g, G f = some (.prim g) → ∀ call, CallOk P call → OneOk P f (g call)

theorem comp_body {hint : Hints} {mode : Mode} {fn : Func} {afn : AFn} (h : comp P hint mode fn = some afn) : fn.body.isSome = true := by
  unfold comp at h
  obtain ⟨c, hb, _⟩ := bind_some' h
  rw [hb]
  rfl

theorem adopt_next {H : AHeap} {lo : Nat} {v v' : AV} (h1 : adopt H lo h v = some (v', h')) : Abs h h' ∧ (∀ id, id < h.next → h'.heap id = h.heap id) ∧ h'.next ≤ h.next + 1 := by
  have hsame : h' = h → Abs h h' ∧ (∀ id, id < h.next → h'.heap id = h.heap id) ∧ h'.next ≤ h.next + 1 := by
    rintro rfl
    exact ⟨.refl _, fun _ _ => rfl, by omega⟩
  have hnew : ∀ o, h' = h.new o → Abs h h' ∧ (∀ id, id < h.next → h'.heap id = h.heap id) ∧ h'.next ≤ h.next + 1 := by
    rintro o rfl
    exact ⟨.new _ _, (new_keeps o).2, by simp [AH.new]⟩
  unfold adopt at h1
  split at h1
  · obtain ⟨_, h1⟩ := bif_some h1
    split at h1
    · obtain ⟨_, _, e⟩ := map_some' h1; cases e; exact hnew _ rfl
    · cases h1
  · cases h1; exact hsame rfl
  · obtain ⟨_, h1⟩ := bif_some h1
    split at h1
    · obtain ⟨_, _, h1⟩ := bind_some' h1
      obtain ⟨_, _, e⟩ := map_some' h1; cases e; exact hnew _ rfl
    · cases h1
  · obtain ⟨_, _, e⟩ := map_some' h1; cases e; exact hsame rfl
  · obtain ⟨_, _, e⟩ := map_some' h1; cases e; exact hsame rfl

theorem adopt_does {ρs ρ1 : Rho} {I1 : Nat → Prop} {start h1 : AH} {w' : World} (ok : Ok ρ I h w.heap) (hs : Start ρ I h w.heap ρs start) (he : Ext ρs I start w.heap ρ1 I1 h1 w'.heap) (hq : Quiet w w') {n : Nat} (hn : h.next ≤ n)
    {v v' : AV} {cv : Value} (hd : adopt h1.heap start.next ⟨h.heap, n, h.lock⟩ v = some (v', h')) (hfree : ∀ id, h.next ≤ id → id < h'.next → ρ id = none) (hv : RV ρ1 I1 w'.heap v cv) : Post ρ I h w v' h' (.returned cv) w' := by
  have hdeep : ∀ u, (deep h1.heap start.next depth v).map (fun v => (v, (⟨h.heap, n, h.lock⟩ : AH))) = some u → u = (v', h') → Post ρ I h w v' h' (.returned cv) w' := by
    intro u h2 e
    subst e
    obtain ⟨x, hx, e⟩ := map_some' h2
    cases e
    exact deep_does ok hs he hq hn hfree hx hv
  have htup : ∀ {off len cap : Nat} {id : Nat} {e : EK} {cs cs' : List AV} {cv : Value}, start.next ≤ id → h1.heap id = some (.cells cs) → traverse (deep (h1.heap.put id none) start.next depth) ((cs.drop off).take (cap * e.size)) = some cs' →
      h' = (⟨h.heap, n, h.lock⟩ : AH).new (.cells cs') → RV ρ1 I1 w'.heap (.sref id off len cap e) cv →
      ∃ ρ' I', RV ρ' I' w'.heap (.sref n 0 len cap e) cv ∧ Ext ρ I h w.heap ρ' I' h' w'.heap ∧ Thaw ρ1 ρ' I1 I' (h1.heap.put id none) start.next w'.heap := by
    intro off len cap id e cs cs' cv hlo hob ht hh hr
    obtain ⟨b, o, c, hρ, rfl, h2, h3, cc, E, fz, h4, h5⟩ := hr
    subst hh
    obtain ⟨g1, g2⟩ := adopt_ext ok hs he hn (fun id g1 g2 => hfree id g1 (by simp only [AH.new]; exact g2)) hlo hρ hob ht
    exact ⟨_, _, ⟨b, o + off, c, by simp [Rho.put], by simp, h2, h3, cc, E, fz, h4, by omega⟩, g1, g2⟩
  unfold adopt at hd
  split at hd
  · rename_i id off len cap e
    obtain ⟨hb, hd⟩ := bif_some hd
    simp only [Bool.and_eq_true] at hb
    split at hd
    · rename_i cs hob
      obtain ⟨cs', ht, e⟩ := map_some' hd
      cases e
      obtain ⟨ρ', I', g1, g2, _⟩ := htup (Nat.le_of_ble_eq_true hb.1) hob ht rfl hv
      exact ⟨cv, ρ', I', rfl, g1, g2, hq⟩
    · cases hd
  · rename_i b
    cases hd
    obtain ⟨A, rfl, hA⟩ := hv
    exact ⟨_, ρ, _, rfl, ⟨A, rfl, hA⟩, start_ext ok hs he hn hfree, hq⟩
  · rename_i id off len cap e rest
    obtain ⟨hb, hd⟩ := bif_some hd
    simp only [Bool.and_eq_true] at hb
    split at hd
    · rename_i cs hob
      obtain ⟨cs', ht, hd⟩ := bind_some' hd
      obtain ⟨rest', hr, e⟩ := map_some' hd
      cases e
      obtain ⟨arr, rfl, hx⟩ := hv
      obtain ⟨c1, cs1, e1, x1, x2⟩ := hx
      obtain ⟨ρ', I', g1, g2, g3⟩ := htup (Nat.le_of_ble_eq_true hb.1) hob ht rfl x1
      exact ⟨_, ρ', I', rfl, ⟨arr, rfl, c1, cs1, e1, g1, traverse_sound (deep_sound g3 depth) _ _ _ hr x2⟩, g2, hq⟩
    · cases hd
  · rename_i b rest
    obtain ⟨rest', hr, e⟩ := map_some' hd
    cases e
    obtain ⟨arr, rfl, hx⟩ := hv
    obtain ⟨c1, cs1, e1, x1, x2⟩ := hx
    obtain ⟨A, e2, hA⟩ := x1
    exact ⟨_, ρ, _, rfl, ⟨arr, rfl, c1, cs1, e1, ⟨A, e2, hA⟩, traverse_sound (deep_sound (start_thaw hs he) depth) _ _ _ hr x2⟩, start_ext ok hs he hn hfree, hq⟩
  · exact hdeep _ hd rfl

theorem runBody_abs {call : CallFn} (hcall : CallOk P call) {k : Nat} {afn : AFn} {args : List AV} {v : AV} (hr : runBody call k afn args h = some (v, h')) : Abs h h' := by
  unfold runBody at hr
  obtain ⟨r, h1, hr⟩ := bind_some' hr
  obtain ⟨e1, st'⟩ := r
  have := exec_abs hcall k _ _ _ _ h1
  simp only at hr
  split at hr
  · cases hr
  · obtain ⟨_, _, e⟩ := map_some' hr
    cases e
    exact this

theorem abs_count {n : Nat} (hn : h.next ≤ n) : Abs h ⟨h.heap, n, h.lock⟩ := ⟨hn, rfl, fun hf id hid => hf id (by simp only at hid; omega), fun _ _ e => e, fun _ _ _ => rfl⟩

theorem acall_ok {G : Ctx} (hG : CtxOk P G) : ∀ k, CallOk P (acall G k)
  | 0 => by
    intro cl f args h v h' hc
    cases hc
  | k + 1 => by
    have ih := acall_ok hG k
    intro cl f args h v h' hc
    simp only [acall] at hc
    split at hc
    · cases hc
    · rename_i g hg
      exact hG.prim f g hg _ ih cl args h v h' hc
    · rename_i afn hg
      obtain ⟨fn, hint, hf, hcomp, hname⟩ := hG.fn f afn hg
      have hfn : ∃ fn, P.funcs[f]? = some fn ∧ fn.body.isSome = true ∧ fn.name ≠ "runtime.NumGoroutine" := ⟨fn, hf, comp_body hcomp, hname⟩
      have full : runBody (acall G k) k afn args h = some (v, h') → cl = .W → Abs h h' ∧ (cl ≠ .W → ∀ id, id < h.next → h'.heap id = h.heap id) ∧ (∃ fn, P.funcs[f]? = some fn ∧ fn.body.isSome = true ∧ fn.name ≠ "runtime.NumGoroutine") ∧
          ∀ (ρ : Rho) (I : Nat → Prop) (w : World) (cargs : Array Value), Ok ρ I h w.heap → (∀ id, h.next ≤ id → id < h'.next → ρ id = none) → RVs ρ I w.heap args cargs.toList → Calls P f cargs w (Post ρ I h w v h') := by
        intro hr hW
        exact ⟨runBody_abs ih hr, fun h => absurd hW h, hfn, fun ρ I w cargs ok hn hargs => runBody_sound ih hG.follows hf hcomp hr ok hn hargs⟩
      have part : ∀ m : Mode, ((runBody (acall G k) k afn args (bif refFrees args then AH.empty else ⟨h.heap, h.next, h.next⟩)).bind fun r =>
          match m with
          | .own => adopt r.2.heap (bif refFrees args then AH.empty else ⟨h.heap, h.next, h.next⟩ : AH).next (bif refFrees args then h else ⟨h.heap, r.2.next, h.lock⟩) r.1
          | _ => (deep r.2.heap (bif refFrees args then AH.empty else ⟨h.heap, h.next, h.next⟩ : AH).next depth r.1).map fun v => (v, (bif refFrees args then h else ⟨h.heap, r.2.next, h.lock⟩ : AH))) = some (v, h') →
          Abs h h' ∧ (cl ≠ .W → ∀ id, id < h.next → h'.heap id = h.heap id) ∧ (∃ fn, P.funcs[f]? = some fn ∧ fn.body.isSome = true ∧ fn.name ≠ "runtime.NumGoroutine") ∧
          ∀ (ρ : Rho) (I : Nat → Prop) (w : World) (cargs : Array Value), Ok ρ I h w.heap → (∀ id, h.next ≤ id → id < h'.next → ρ id = none) → RVs ρ I w.heap args cargs.toList → Calls P f cargs w (Post ρ I h w v h') := by
        intro m hc
        obtain ⟨r, hr, hc⟩ := bind_some' hc
        obtain ⟨v1, h1⟩ := r
        simp only at hc
        -- the start, and the counter behind it
        have key : ∃ n, h.next ≤ n ∧ (bif refFrees args then h else ⟨h.heap, h1.next, h.lock⟩ : AH) = ⟨h.heap, n, h.lock⟩ ∧
            ∀ (ρ : Rho) (I : Nat → Prop) (w : World) (cargs : Array Value), Ok ρ I h w.heap → (∀ id, h.next ≤ id → id < n → ρ id = none) → RVs ρ I w.heap args cargs.toList →
              ∃ ρs, Start ρ I h w.heap ρs (bif refFrees args then AH.empty else ⟨h.heap, h.next, h.next⟩) ∧ RVs ρs I w.heap args cargs.toList ∧ (∀ id, (bif refFrees args then AH.empty else ⟨h.heap, h.next, h.next⟩ : AH).next ≤ id → id < h1.next → ρs id = none) := by
          cases hrf : refFrees args with
          | true =>
            refine ⟨h.next, Nat.le_refl _, rfl, fun ρ I w cargs ok _ hargs => ⟨fun _ => none, Start.empty ok, RVs_refFree _ _ hrf hargs, fun _ _ _ => rfl⟩⟩
          | false =>
            have hnx : h.next ≤ h1.next := by
              have := (runBody_abs ih hr).next
              rw [hrf] at this
              exact this
            exact ⟨h1.next, hnx, rfl, fun ρ I w cargs ok hn hargs => ⟨ρ, Start.locked ok, hargs, hn⟩⟩
        obtain ⟨n, hn0, hh0, key⟩ := key
        rw [hh0] at hc
        have hcalls : ∀ (ρ : Rho) (I : Nat → Prop) (w : World) (cargs : Array Value), Ok ρ I h w.heap → (∀ id, h.next ≤ id → id < n → ρ id = none) → RVs ρ I w.heap args cargs.toList →
            ∃ ρs, Start ρ I h w.heap ρs (bif refFrees args then AH.empty else ⟨h.heap, h.next, h.next⟩) ∧ Calls P f cargs w (Post ρs I (bif refFrees args then AH.empty else ⟨h.heap, h.next, h.next⟩) w v1 h1) := by
          intro ρ I w cargs ok hn hargs
          obtain ⟨ρs, s1, s2, s3⟩ := key ρ I w cargs ok hn hargs
          exact ⟨ρs, s1, runBody_sound ih hG.follows hf hcomp hr s1.ok s3 s2⟩
        have hdeepcase : ((deep h1.heap (bif refFrees args then AH.empty else ⟨h.heap, h.next, h.next⟩ : AH).next depth v1).map fun v => (v, (⟨h.heap, n, h.lock⟩ : AH))) = some (v, h') →
            Abs h h' ∧ (cl ≠ .W → ∀ id, id < h.next → h'.heap id = h.heap id) ∧ (∃ fn, P.funcs[f]? = some fn ∧ fn.body.isSome = true ∧ fn.name ≠ "runtime.NumGoroutine") ∧
            ∀ (ρ : Rho) (I : Nat → Prop) (w : World) (cargs : Array Value), Ok ρ I h w.heap → (∀ id, h.next ≤ id → id < h'.next → ρ id = none) → RVs ρ I w.heap args cargs.toList → Calls P f cargs w (Post ρ I h w v h') := by
          intro hd
          obtain ⟨v', hd2, e⟩ := map_some' hd
          cases e
          refine ⟨abs_count hn0, fun _ _ _ => rfl, hfn, fun ρ I w cargs ok hn hargs => ?_⟩
          obtain ⟨ρs, s1, s2⟩ := hcalls ρ I w cargs ok hn hargs
          refine s2.mono ?_
          rintro e w' ⟨cv, ρ1, I1, rfl, g1, g2, gq⟩
          exact deep_does ok s1 g2 gq hn0 hn hd2 g1
        cases m with
        | own =>
          obtain ⟨a1, a2, a3⟩ := adopt_next hc
          refine ⟨(abs_count hn0).trans a1, fun _ id hid => a2 id (by simp only; omega), hfn, fun ρ I w cargs ok hn hargs => ?_⟩
          obtain ⟨ρs, s1, s2⟩ := hcalls ρ I w cargs ok (fun id g1 g2 => hn id g1 (by have := a1.next; simp only at this; omega)) hargs
          refine s2.mono ?_
          rintro e w' ⟨cv, ρ1, I1, rfl, g1, g2, gq⟩
          exact adopt_does ok s1 g2 gq hn0 hc hn g1
        | pure => exact hdeepcase hc
        | full => exact hdeepcase hc
      cases cl with
      | W =>
        cases hmode : afn.mode with
        | full =>
          rw [hmode] at hc
          exact full hc rfl
        | pure =>
          rw [hmode] at hc
          exact part .pure hc
        | own =>
          rw [hmode] at hc
          exact part .own hc
      | S => exact part afn.mode hc
      | M => exact part afn.mode hc
end
end Go.Ai
