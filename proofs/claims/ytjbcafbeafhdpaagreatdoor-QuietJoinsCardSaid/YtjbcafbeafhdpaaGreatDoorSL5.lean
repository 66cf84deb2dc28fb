import Derived.Test.YtjbcafbeafhdpaaGreatDoorSL4
set_option maxRecDepth 10000
set_option linter.unusedVariables false
set_option linter.unusedSimpArgs false
namespace Go.SL
open Go.RowKit

/-! ### 7. Regions that draw their order -/
theorem Owns.weaken {w : World} {ρ ρ' : Gh} (h : ρ ≤ ρ') {H : Heap} (o : Owns w ρ' H) : Owns w ρ H := by
  induction H with
  | nil => trivial
  | cons g H ih =>
    refine ⟨o.1, fun b hb => ⟨?_, (o.2.1 b hb).2⟩, ih o.2.2⟩
    cases hx : ρ.objs b with
    | none => rfl
    | some x => have := h.objs b x hx; rw [(o.2.1 b hb).1] at this; cases this
theorem Sat.weaken {ρ ρ' : Gh} (h : ρ ≤ ρ') {H : Heap} {w : World} (s : Sat ρ' H w) : Sat ρ H w :=
  ⟨fun b o hb => s.ghost b o (h.objs b o hb), s.owns.weaken h, s.os.trans h.os, s.tape.trans h.tape, s.output.trans h.output⟩
theorem Sat.left {ρ : Gh} {H F : Heap} {w : World} (s : Sat ρ (H ++ F) w) : Sat ρ H w := by
  induction H with
  | nil => exact ⟨s.ghost, trivial, s.os, s.tape, s.output⟩
  | cons g H ih =>
    have s' := ih s.tail
    exact ⟨s.ghost, ⟨s.owns.1, fun b hb => ⟨(s.owns.2.1 b hb).1, fun k hk => (s.owns.2.1 b hb).2 k (List.mem_append_left _ hk)⟩, s'.owns⟩, s.os, s.tape, s.output⟩

section
variable {P : Program} {ops : Array Oper} {md : Region.Mode} {I : World → Prop}
def onlyN (Q : Exit → Act → World → Prop) : Exit → Act → World → Prop
  | .normal, a, w => Q .normal a w
  | _, _, _ => False
def YI (P : Program) (ops : Array Oper) (I : World → Prop) (o : Oper) (v : Value) (a : Act) : Prop :=
  (Region.wanted o (yielded ops a.tmps) = true ∧ ∀ w, I w → (execOp a.eval o).run P w = .ok (.value v) w) ∨
  (Region.wanted o (yielded ops a.tmps) = false ∧ v = undef)
theorem YI.of_same {o : Oper} {v : Value} {a a' : Act} (hy : YI P ops I o v a) (he : execOp a'.eval o = execOp a.eval o)
    (hw : Region.wanted o (yielded ops a'.tmps) = Region.wanted o (yielded ops a.tmps)) : YI P ops I o v a' := by
  unfold YI at *; rw [he, hw]; exact hy
theorem YI.wpOp {Q : Exit → Act → World → Prop} {i : Nat} {o : Oper} {v : Value} {a : Act} (hi : ops[i]? = some o) (hy : YI P ops I o v a) {K : Act → World → Prop} {w : World} (hI : I w) (h : K (a.put o.dst v) w) : wpOp P ops Q i K a w := by
  unfold Go.wpOp
  simp only [hi]
  rcases hy with ⟨hw, hv⟩ | ⟨hw, rfl⟩
  · simp only [hw, if_true, Oper.wp, hv w hI, Oper.upon]; exact .inl h
  · simp only [hw, Bool.false_eq_true, if_false]; exact h
/-- Operation j behind operation i's value is operation j ahead of it, where they are apart. -/
theorem wpOp_swap {Q : Exit → Act → World → Prop} {j : Nat} {oi oj : Oper} {v : Value} (hj : ops[j]? = some oj) (hap : oi.apart ops oj = true)
    (hsi : ∀ cs b, oi.op ≠ .select cs b) (hsj : ∀ cs b, oj.op ≠ .select cs b) {K : Act → World → Prop} {a : Act} {w : World}
    (hy : YI P ops I oi v a) (h : wpOp P ops (onlyN Q) j K (a.put oi.dst v) w) : wpOp P ops (onlyN Q) j (fun a' w' => YI P ops I oi v a' ∧ K (a'.put oi.dst v) w') a w := by
  obtain ⟨h1, h2, h3⟩ := Oper.apart_spec hap
  have keep : ∀ u, YI P ops I oi v (a.put oj.dst u) := fun u => hy.of_same (execOp_put oi hsi a oj.dst u h3) (wanted_put oi a oj.dst u h3)
  have keepD : ∀ d u, YI P ops I oi v (Act.put { a with defers := d :: a.defers } oj.dst u) := fun d u => by
    have : YI P ops I oi v { a with defers := d :: a.defers } := hy.of_same rfl rfl
    exact this.of_same (execOp_put oi hsi _ oj.dst u h3) (wanted_put oi _ oj.dst u h3)
  unfold wpOp at *
  simp only [hj] at *
  rw [wanted_put oj a oi.dst v h1] at h
  by_cases hw : Region.wanted oj (yielded ops a.tmps) = true
  · rw [if_pos hw] at h ⊢
    rcases h with h | ⟨hasks, hl⟩
    · refine .inl ?_
      unfold Oper.wp at *
      rw [execOp_put oj hsj a oi.dst v h1] at h
      generalize (execOp a.eval oj).run P w = r at *
      cases r with
      | halt x w' => cases x <;> simp only [Oper.upon] at h ⊢ <;> first | exact h | exact h.elim
      | ok nx w' =>
        cases nx <;> simp only [Oper.upon] at h ⊢
        case value u => exact ⟨keep u, by rw [← Act.put_comm a v u h2]; exact h⟩
        case skip => exact ⟨keep undef, by rw [← Act.put_comm a v undef h2]; exact h⟩
        case defer d => exact ⟨keepD d undef, by rw [← Act.put_comm _ v undef h2, ← Act.put_defers]; exact h⟩
        case row rw_ as => exact Rows.mono h fun u w'' he => ⟨keep u, by rw [← Act.put_comm a v u h2]; exact he⟩
        case enter f as =>
          refine Calls.mono h fun e w'' he => ?_
          cases e with
          | returned u => exact ⟨keep u, by rw [← Act.put_comm a v u h2]; exact he⟩
          | panicked c => exact he
          | outgrown => exact he
    · obtain ⟨x, y, hq⟩ := hl; exact hq.elim
  · rw [if_neg hw] at h ⊢
    exact ⟨keep undef, by rw [← Act.put_comm a v undef h2]; exact h⟩
/-- None of these has come up yet. -/
def unl (D : List Nat) (listed : Array Bool) : Prop := ∀ j ∈ D, listed.getD j false = false
/-- Whatever order is picked from here on, the world being of a class till one of D comes up. -/
def anyI (P : Program) (md : Region.Mode) (ops : Array Oper) (Q : Exit → Act → World → Prop) (I : World → Prop) (D : List Nat) : Nat → Array Bool → Act → World → Prop
  | 0, listed, a, w => (unl D listed → I w) ∧ Region.ready md ops listed = [] ∧ Q .normal a w
  | fuel + 1, listed, a, w => (unl D listed → I w) ∧ (Region.ready md ops listed = [] → Q .normal a w) ∧ ∀ i ∈ Region.ready md ops listed, wpOp P ops (onlyN Q) i (anyI P md ops Q I D fuel (listed.setIfInBounds i true)) a w
theorem wpOp_onlyN {Q : Exit → Act → World → Prop} {i : Nat} {K : Act → World → Prop} {a : Act} {w : World} (h : wpOp P ops (onlyN Q) i K a w) : wpOp P ops Q i K a w := by
  unfold wpOp at *
  split
  · simp_all
  · rename_i o ho
    simp only [ho] at h
    by_cases hw : Region.wanted o (yielded ops a.tmps) = true
    · rw [if_pos hw] at h ⊢
      rcases h with h | ⟨_, x, y, hq⟩
      · refine .inl ?_
        unfold Oper.wp at *
        generalize (execOp a.eval o).run P w = r at *
        cases r with
        | halt x w' => cases x <;> simp only [Oper.upon] at h ⊢ <;> first | exact h.elim | exact h
        | ok nx w' =>
          cases nx <;> simp only [Oper.upon] at h ⊢ <;> first | exact h | skip
          exact Calls.mono h fun e w'' he => by
            cases e with
            | returned u => exact he
            | panicked c => exact he.elim
            | outgrown => obtain ⟨_, _, hx⟩ := he; exact hx.elim
      · exact hq.elim
    · rw [if_neg hw] at h ⊢; exact h
theorem anyI.any {Q : Exit → Act → World → Prop} {D : List Nat} : ∀ (fuel : Nat) {listed : Array Bool} {a : Act} {w : World}, anyI P md ops Q I D fuel listed a w → wpAny P md ops Q fuel listed a w
  | 0, _, _, _, h => h.2
  | fuel + 1, _, _, _, h => ⟨h.2.1, fun i hi => wpOp_mono (fun _ _ h => anyI.any fuel h) (wpOp_onlyN (h.2.2 i hi))⟩
theorem unl_set {D : List Nat} {listed : Array Bool} {i : Nat} (h : unl D listed) (hi : i ∉ D) : unl D (listed.setIfInBounds i true) := fun j hj => by
  have : i ≠ j := fun e => hi (e ▸ hj)
  rw [getD_set_ne false this]
  exact h j hj
theorem anyI_first {Q : Exit → Act → World → Prop} {D : List Nat} {i : Nat} {oi : Oper} {v : Value} (hi : ops[i]? = some oi) (hsel : ∀ (j : Nat) (o : Oper) cs b, ops[j]? = some o → o.op ≠ .select cs b)
    (hiD : i ∉ D) (hD : ∀ j ∈ D, ∀ oj, ops[j]? = some oj → ∃ e ∈ oj.after, Region.binds md e = true ∧ e.on = i) :
    ∀ (fuel : Nat) (listed : Array Bool) (a : Act) (w : World),
      (∀ j oj, ops[j]? = some oj → j ≠ i → listed.getD j true = false → (∀ e ∈ oj.after, Region.binds md e = true → e.on ≠ i) → oi.apart ops oj = true) →
      unl D listed → i ∈ Region.ready md ops listed → YI P ops I oi v a → anyI P md ops Q I D fuel (listed.setIfInBounds i true) (a.put oi.dst v) w → anyI P md ops Q I D (fuel + 1) listed a w := by
  intro fuel
  induction fuel with
  | zero =>
    intro listed a w _ hu hr hy H
    have hI := H.1 (unl_set hu hiD)
    refine ⟨fun _ => hI, fun h => (by rw [h] at hr; cases hr), fun j hj => ?_⟩
    by_cases hji : j = i
    · subst hji; exact hy.wpOp hi hI H
    · have := ready_mono hj hji
      rw [H.2.1] at this
      cases this
  | succ fuel ih =>
    intro listed a w hfree hu hr hy H
    have hI := H.1 (unl_set hu hiD)
    refine ⟨fun _ => hI, fun h => (by rw [h] at hr; cases hr), fun j hj => ?_⟩
    by_cases hji : j = i
    · subst hji; exact hy.wpOp hi hI H
    · have h1 := H.2.2 j (ready_mono hj hji)
      obtain ⟨hjun, oj, hoj, hall⟩ := mem_ready.1 hj
      have hnot : ∀ e ∈ oj.after, Region.binds md e = true → e.on ≠ i := fun e he hb heq => by
        have h1 := hall e he hb
        have h0 := (mem_ready.1 hr).1
        rw [heq] at h1
        rcases Nat.lt_or_ge i listed.size with h' | h'
        · simp [h'] at h0 h1; rw [h0] at h1; cases h1
        · simp [Array.getElem?_eq_none h'] at h1
      have hjD : j ∉ D := fun hm => by
        obtain ⟨e, he, hb, heq⟩ := hD j hm oj hoj
        exact hnot e he hb heq
      have h2 := wpOp_swap hoj (hfree j oj hoj hji hjun hnot) (fun cs b => hsel i oi cs b hi) (fun cs b => hsel j oj cs b hoj) hy h1
      refine wpOp_mono (fun a' w' h3 => ih (listed.setIfInBounds j true) a' w' (fun k ok hk hki hun hno => ?_) (unl_set hu hjD) (ready_mono hr (Ne.symm hji)) h3.1 ?_) h2
      · refine hfree k ok hk hki ?_ hno
        by_cases hjk : j = k
        · subst hjk; exact hjun
        · rw [getD_set_ne true hjk] at hun; exact hun
      · rw [Array.setIfInBounds_comm _ _ hji]
        exact h3.2
end

/-- May operation i be taken first? Nothing of D has come up, and all of D waits for it. -/
def firstB (ops : Array Oper) (D : List Nat) (listed : Array Bool) (i : Nat) : Bool :=
  (Region.ready .any ops listed).contains i && Region.free .any ops listed i && !D.contains i && D.all (fun j => !listed.getD j false && match ops[j]? with | some o => o.after.any (fun e => Region.binds .any e && e.on == i) | none => true)
theorem firstB_spec {ops : Array Oper} {D : List Nat} {listed : Array Bool} {i : Nat} {oi : Oper} (hi : ops[i]? = some oi) (h : firstB ops D listed i = true) : i ∈ Region.ready .any ops listed ∧ Region.free .any ops listed i = true ∧ i ∉ D ∧ unl D listed ∧
    ∀ j ∈ D, ∀ oj, ops[j]? = some oj → ∃ e ∈ oj.after, Region.binds .any e = true ∧ e.on = i := by
  simp only [firstB, Bool.and_eq_true, List.contains_iff_mem, Bool.not_eq_true', List.all_eq_true] at h
  obtain ⟨⟨⟨h1, h2⟩, h3⟩, h4⟩ := h
  refine ⟨h1, h2, fun hm => ?_, fun j hj => (h4 j hj).1, fun j hj oj ho => ?_⟩
  · rw [← List.contains_iff_mem] at hm; rw [hm] at h3; cases h3
  · have := (h4 j hj).2
    rw [ho] at this
    simp only [Array.any_eq_true', Bool.and_eq_true, beq_iff_eq] at this
    obtain ⟨e, he, hb, heq⟩ := this
    exact ⟨e, he, hb, heq⟩
structure VAL (P : Program) (n : Nat) (E : Env) (ρ : Gh) (H : Heap) (op : Op) (v : Value) : Prop where
  go : ∀ ty ps af g d a w, Ag n E a → Sat ρ H w → (execOp a.eval ⟨d, op, ty, ps, af, g⟩).run P w = .ok (.value v) w
/-- The goal within such a region: what is quiet reads Hk alone. -/
structure WD (P : Program) (n : Nat) (ops : Array Oper) (Q : Exit → Act → World → Prop) (ρ0 : Gh) (Hk : Heap) (D : List Nat) (fuel : Nat) (listed : Array Bool) (E : Env) (ρ : Gh) (H : Heap) : Prop where
  go : ρ0 ≤ ρ → ∀ a w, Ag n E a → Sat ρ (Hk ++ H) w → anyI P .any ops Q (Sat ρ0 Hk) D fuel listed a w
/-- .. behind the first of D. -/
structure WT (P : Program) (n : Nat) (ops : Array Oper) (Q : Exit → Act → World → Prop) (ρ0 : Gh) (Hk : Heap) (D : List Nat) (fuel : Nat) (listed : Array Bool) (E : Env) (ρ : Gh) (H : Heap) : Prop where
  go : ∀ a w, Ag n E a → Sat ρ H w → anyI P .any ops Q (Sat ρ0 Hk) D fuel listed a w
section
variable {P : Program} {Λ : Lay} {n : Nat} {ops all : Array Oper} {Q Q' : Exit → Act → World → Prop} {E E' : Env} {ρ ρ0 ρ' : Gh} {H H' Hk F : Heap} {fuel : Nat} {listed : Array Bool} {D : List Nat}
theorem WC.drawn {id : Nat} {l : List Oper} (hm : P.follows .mixedOrders = true) (Hk : Heap) (D : List Nat) (m : Nat) (hm' : l.length = m) [hH : Split H Hk F] (h : WD P n l.toArray Q ρ Hk D m (Array.replicate m false) E ρ F) : WC P n (.region id l.toArray true) Q E ρ H := by
  refine ⟨fun a w ha s => ?_⟩
  subst hm'
  refine wp_region_any hm ?_
  have := (h.go (Gh.le_refl _) a _ ha ((s.split hH).drewn (w.drawn + 1))).any _
  simpa using this
theorem WC.drawn0 {id : Nat} {l : List Oper} (hm : P.follows .mixedOrders = true) (D : List Nat) (m : Nat) (hm' : l.length = m) (h : WD P n l.toArray Q ρ [] D m (Array.replicate m false) E ρ H) : WC P n (.region id l.toArray true) Q E ρ H := WC.drawn hm [] D m hm' h
theorem WC.drawn1 {id : Nat} {l : List Oper} {k1 : HL} (hm : P.follows .mixedOrders = true) (D : List Nat) (m : Nat) (hm' : l.length = m) (h : WD P n l.toArray Q ρ [k1] D m (Array.replicate m false) E ρ H) : WC P n (.region id l.toArray true) Q E ρ (k1 :: H) := WC.drawn hm [k1] D m hm' h
theorem WC.drawn2 {id : Nat} {l : List Oper} {k1 k2 : HL} (hm : P.follows .mixedOrders = true) (D : List Nat) (m : Nat) (hm' : l.length = m) (h : WD P n l.toArray Q ρ [k1, k2] D m (Array.replicate m false) E ρ H) : WC P n (.region id l.toArray true) Q E ρ (k1 :: k2 :: H) := WC.drawn hm [k1, k2] D m hm' h
theorem WC.drawn3 {id : Nat} {l : List Oper} {k1 k2 k3 : HL} (hm : P.follows .mixedOrders = true) (D : List Nat) (m : Nat) (hm' : l.length = m) (h : WD P n l.toArray Q ρ [k1, k2, k3] D m (Array.replicate m false) E ρ H) : WC P n (.region id l.toArray true) Q E ρ (k1 :: k2 :: k3 :: H) := WC.drawn hm [k1, k2, k3] D m hm' h
theorem WC.drawn4 {id : Nat} {l : List Oper} {k1 k2 k3 k4 : HL} (hm : P.follows .mixedOrders = true) (D : List Nat) (m : Nat) (hm' : l.length = m) (h : WD P n l.toArray Q ρ [k1, k2, k3, k4] D m (Array.replicate m false) E ρ H) : WC P n (.region id l.toArray true) Q E ρ (k1 :: k2 :: k3 :: k4 :: H) := WC.drawn hm [k1, k2, k3, k4] D m hm' h
theorem WD.value {d : Nat} {op : Op} {ty : TypeId} {ps : String} {af : Array Edge} {g : Option (Nat × Bool)} {v : Value} (i : Nat) (hi : ops[i]? = some ⟨some d, op, ty, ps, af, g⟩) (hs : Region.noSelect ops = true) (hf : firstB ops D listed i = true)
    {bx cx : Bool} (hw : wants E ops g = some (bx, cx)) [hsm : Same bx cx] (hd : Nat.blt d n = true) (hv : VAL P n E ρ0 Hk op v) (k : WD P n ops Q ρ0 Hk D fuel (listed.setIfInBounds i true) ((d, v) :: E) ρ H) : WD P n ops Q ρ0 Hk D (fuel + 1) listed E ρ H := by
  refine ⟨fun hle a w ha s => ?_⟩
  obtain ⟨f1, f2, f3, f4, f5⟩ := firstB_spec hi hf
  exact anyI_first hi (Region.noSelect_spec hs) f3 f5 fuel listed a w (Region.free_spec hi f2) f4 f1 (.inl ⟨by rw [wants_spec (o := ⟨some d, op, ty, ps, af, g⟩) hw ha, hsm.eq]; simp, fun w hI => hv.go _ _ _ _ _ a w ha hI⟩) (k.go hle _ _ (ha.put (d := some d) v hd) s)
theorem WD.skipped {d : Nat} {op : Op} {ty : TypeId} {ps : String} {af : Array Edge} {g : Option (Nat × Bool)} (i : Nat) (hi : ops[i]? = some ⟨some d, op, ty, ps, af, g⟩) (hs : Region.noSelect ops = true) (hf : firstB ops D listed i = true)
    {bx cx : Bool} (hw : wants E ops g = some (bx, cx)) [hsm : Diff bx cx] (hd : Nat.blt d n = true) (k : WD P n ops Q ρ0 Hk D fuel (listed.setIfInBounds i true) ((d, undef) :: E) ρ H) : WD P n ops Q ρ0 Hk D (fuel + 1) listed E ρ H := by
  refine ⟨fun hle a w ha s => ?_⟩
  obtain ⟨f1, f2, f3, f4, f5⟩ := firstB_spec hi hf
  exact anyI_first hi (Region.noSelect_spec hs) f3 f5 fuel listed a w (Region.free_spec hi f2) f4 f1 (.inr ⟨by rw [wants_spec (o := ⟨some d, op, ty, ps, af, g⟩) hw ha, hsm.eq]; simp, rfl⟩) (k.go hle _ _ (ha.put (d := some d) undef hd) s)
theorem loud_op {K : Act → World → Prop} {a : Act} {w : World} {i : Nat} {o : Oper} (hi : ops[i]? = some o) (h : wpList P ops (Exit.then K (fun _ _ _ => False)) [o] a w) : wpOp P ops (onlyN Q) i K a w := by
  unfold wpList at h
  unfold wpOp
  simp only [hi]
  split
  · rename_i hw
    rw [if_pos hw] at h
    rcases h with h | ⟨_, x, y, hq⟩
    · refine .inl ?_
      unfold Oper.wp at *
      generalize (execOp a.eval o).run P w = r at *
      cases r with
      | halt x w' => cases x <;> simp only [Oper.upon] at h ⊢ <;> first | exact h.elim | exact h
      | ok nx w' =>
        cases nx <;> simp only [Oper.upon] at h ⊢ <;> exact h
    · exact hq.elim
  · rename_i hw
    rw [if_neg hw] at h
    exact h
/-- An operation that does something: it stands alone. -/
theorem WD.loud (i : Nat) {o : Oper} (hi : ops[i]? = some o) (hr : Region.ready .any ops listed = [i]) {HH : Heap} [hA : App Hk H HH]
    (k : ρ0 ≤ ρ → WL P n ops (Exit.then (anyI P .any ops Q (Sat ρ0 Hk) D fuel (listed.setIfInBounds i true)) (fun _ _ _ => False)) [o] E ρ HH) : WD P n ops Q ρ0 Hk D (fuel + 1) listed E ρ H := by
  refine ⟨fun hle a w ha s => ?_⟩
  refine ⟨fun _ => s.left.weaken hle, fun h => (by rw [hr] at h; cases h), fun j hj => ?_⟩
  rw [hr] at hj
  simp only [List.mem_singleton] at hj
  subst hj
  exact loud_op hi ((k hle).go a w ha (hA.eq ▸ s))
/-- Two that do something may come up, in either order. -/
theorem WD.loud2 (i j : Nat) {o o' : Oper} (hi : ops[i]? = some o) (hj : ops[j]? = some o') (hr : Region.ready .any ops listed = [i, j]) {HH : Heap} [hA : App Hk H HH]
    (k : ρ0 ≤ ρ → WL P n ops (Exit.then (anyI P .any ops Q (Sat ρ0 Hk) D fuel (listed.setIfInBounds i true)) (fun _ _ _ => False)) [o] E ρ HH)
    (k' : ρ0 ≤ ρ → WL P n ops (Exit.then (anyI P .any ops Q (Sat ρ0 Hk) D fuel (listed.setIfInBounds j true)) (fun _ _ _ => False)) [o'] E ρ HH) : WD P n ops Q ρ0 Hk D (fuel + 1) listed E ρ H := by
  refine ⟨fun hle a w ha s => ?_⟩
  refine ⟨fun _ => s.left.weaken hle, fun h => (by rw [hr] at h; cases h), fun m hm => ?_⟩
  rw [hr] at hm
  simp only [List.mem_cons, List.not_mem_nil, or_false] at hm
  rcases hm with rfl | rfl
  · exact loud_op hi ((k hle).go a w ha (hA.eq ▸ s))
  · exact loud_op hj ((k' hle).go a w ha (hA.eq ▸ s))
/-- .. and what comes behind it. -/
theorem WX.drawn {H1 : Heap} [hH : Split H Hk H1] (hle : ρ0 ≤ ρ) (h : WD P n ops Q ρ0 Hk D fuel listed E ρ H1) : WX n .normal (Exit.then (anyI P .any ops Q (Sat ρ0 Hk) D fuel listed) Q') E ρ H := ⟨fun a w ha s =>
  h.go hle a w ha (s.split hH)⟩
theorem WX.drawnT (h : WT P n ops Q ρ0 Hk D fuel listed E ρ H) : WX n .normal (Exit.then (anyI P .any ops Q (Sat ρ0 Hk) D fuel listed) Q') E ρ H := ⟨fun a w ha s => h.go a w ha s⟩
/-- Has one of D come up? -/
def someB (D : List Nat) (listed : Array Bool) : Bool := D.any fun j => listed.getD j false
theorem someB_spec {D : List Nat} {listed : Array Bool} (h : someB D listed = true) : ¬ unl D listed := fun hu => by
  simp only [someB, List.any_eq_true] at h
  obtain ⟨j, hj, h1⟩ := h
  rw [hu j hj] at h1
  cases h1
theorem WT.loud (i : Nat) {o : Oper} (hi : ops[i]? = some o) (hD : someB D listed = true) (hr : Region.ready .any ops listed = [i])
    (k : WL P n ops (Exit.then (anyI P .any ops Q (Sat ρ0 Hk) D fuel (listed.setIfInBounds i true)) (fun _ _ _ => False)) [o] E ρ H) : WT P n ops Q ρ0 Hk D (fuel + 1) listed E ρ H := by
  refine ⟨fun a w ha s => ?_⟩
  refine ⟨fun hu => absurd hu (someB_spec hD), fun h => (by rw [hr] at h; cases h), fun j hj => ?_⟩
  rw [hr] at hj
  simp only [List.mem_singleton] at hj
  subst hj
  exact loud_op hi (k.go a w ha s)
theorem WD.done (hr : Region.ready .any ops listed = []) {HH : Heap} [hA : App Hk H HH] (h : WX n .normal Q E ρ HH) : WD P n ops Q ρ0 Hk D 0 listed E ρ H := ⟨fun hle a w ha s => ⟨fun _ => s.left.weaken hle, hr, h.go a w ha (hA.eq ▸ s)⟩⟩
theorem WT.done (hD : someB D listed = true) (hr : Region.ready .any ops listed = []) (h : WX n .normal Q E ρ H) : WT P n ops Q ρ0 Hk D 0 listed E ρ H := ⟨fun a w ha s => ⟨fun hu => absurd hu (someB_spec hD), hr, h.go a w ha s⟩⟩
end
end Go.SL
