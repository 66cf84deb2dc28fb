/- Code and calls: what the evaluator tells, every run does. -/
import Derived.Test.YtjbcafbeafhdpaaGreatDoorD16
set_option maxRecDepth 10000
set_option linter.unusedVariables false
set_option linter.unusedSimpArgs false
namespace Go.D
open Go.SL Go.RowKit
section
variable {P : Program} {P0 : Env0} {call : CallF} {Λs : Lay} {G : Gh} {n : Nat}
theorem drawn_sound (hm : P.follows .mixedOrders = true) (hT : TysOk P P0.tys Λs) (hX : ExtsOk P P0) (hC : CallOk P call) {ops : Array Oper} {id : Nat} {E E' : DE} {s s' : St} {σ : Sg} {a : Act} {w : World} (hE : EnvR σ n E a) (hR : Rel G σ s w)
    (h : drawnD P0 call n ops.toList E s = some (E', s')) {Q : Exit → Act → World → Prop} (hQ : ∀ σ' a' w', Grow s s' σ σ' → EnvR σ' n E' a' → Rel G σ' s' w' → Q .normal a' w') : (Code.region id ops true).wp P Q a w := by
  unfold drawnD at h
  cases hok : regOk ops.toList (stepsD ops.toList) with
  | false => rw [hok] at h; cases h
  | true =>
    rw [hok] at h
    simp only [cond_true] at h
    have hpl := hok
    simp only [regOk, Bool.and_eq_true] at hpl
    refine wp_region_any hm ?_
    have hno : ∀ i, ¬ lst (Array.replicate ops.size false) i := fun i hi => by
      unfold lst at hi
      simp [Array.getD_eq_getD_getElem?, Array.getElem?_replicate] at hi
      split at hi <;> simp at hi
    refine runS_sound (s0 := s) (σ0 := σ) (E0 := E) hok hT hX hC hQ (stepsD ops.toList) 0 (fun _ => .tuple []) (fun _ => .emp) (fun _ => 0) 0 E s none [] σ _ a _ _ hpl.1 h ?_ (by have := cntF_le (Array.replicate ops.size false).toList; simpa using this)
    exact ⟨⟨fun t v ht => ⟨(hE.at_ t v ht).1, .inr ⟨fun i o hi => (by rw [hasB_zero] at hi; cases hi), ht⟩⟩, fun i j hi => (by rw [hasB_zero] at hi; cases hi), fun i hi => (by rw [hasB_zero] at hi; cases hi)⟩,
      ⟨hE.size, hE.defers, fun i o t hi => absurd hi (hno i), fun t v _ ht => (hE.at_ t v ht).2, fun i j hi => absurd hi (hno i)⟩, fun i hi => absurd hi (hno i), by simp,
      fun i hi => (by rw [hasB_zero] at hi; cases hi), fun j o d hj => (by rw [hasB_zero] at hj; cases hj), fun j hj => (by rw [hasB_zero] at hj; cases hj), fun j o hj => (by rw [hasB_zero] at hj; cases hj), Grow.refl _ _, hR.drawn _,
      fun j o hj => (by rw [hasB_zero] at hj; cases hj), fun j id ob hp => (by cases hp)⟩
def Xt.ex : Xt → Exit
  | .norm => .normal
  | .ret => .ret
  | .exit i => .exit i
/-- Code. -/
theorem code_sound (hm : P.follows .mixedOrders = true) (hT : TysOk P P0.tys Λs) (hX : ExtsOk P P0) (hC : CallOk P call) {lf : Nat} : ∀ (c : Code) {E E' : DE} {s s' : St} {σ : Sg} {a : Act} {w : World} {xt : Xt} {Q : Exit → Act → World → Prop}, EnvR σ n E a → Rel G σ s w →
    codeD P0 call lf n c E s = some (xt, E', s') → (∀ σ' a' w', Grow s s' σ σ' → EnvR σ' n E' a' → Rel G σ' s' w' → Q xt.ex a' w') → c.wp P Q a w := by
  intro c
  induction c with
  | skip =>
    intro E E' s s' σ a w xt Q hE hR h hQ
    simp only [codeD, Option.some.injEq, Prod.mk.injEq] at h
    obtain ⟨rfl, rfl, rfl⟩ := h
    exact wp_skip (hQ σ a w (Grow.refl _ _) hE hR)
  | ret =>
    intro E E' s s' σ a w xt Q hE hR h hQ
    simp only [codeD, Option.some.injEq, Prod.mk.injEq] at h
    obtain ⟨rfl, rfl, rfl⟩ := h
    exact wp_ret (hQ σ a w (Grow.refl _ _) hE hR)
  | exit i =>
    intro E E' s s' σ a w xt Q hE hR h hQ
    simp only [codeD, Option.some.injEq, Prod.mk.injEq] at h
    obtain ⟨rfl, rfl, rfl⟩ := h
    exact wp_exit (hQ σ a w (Grow.refl _ _) hE hR)
  | region id ops d =>
    intro E E' s s' σ a w xt Q hE hR h hQ
    simp only [codeD] at h
    split at h
    · rename_i E1 s1 hl
      simp only [Option.some.injEq, Prod.mk.injEq] at h
      obtain ⟨rfl, rfl, rfl⟩ := h
      cases d with
      | true => exact drawn_sound hm hT hX hC hE hR (by simpa using hl) hQ
      | false =>
        have : ops = ops.toList.toArray := by simp
        rw [this]
        exact wp_region_lit (list_sound hT hX hC ops.toList hE hR (by simpa using hl) hQ)
    · cases h
  | seq x y ihx ihy =>
    intro E E' s s' σ a w xt Q hE hR h hQ
    simp only [codeD] at h
    split at h
    · rename_i E1 s1 hx
      exact wp_seq (ihx hE hR hx fun σ1 a1 w1 g1 g2 g3 => ihy g2 g3 h fun σ2 a2 w2 k1 k2 k3 => hQ σ2 a2 w2 (g1.trans k1) k2 k3)
    · rename_i hn
      refine wp_seq (ihx hE hR h fun σ1 a1 w1 g1 g2 g3 => ?_)
      cases xt with
      | norm => exact absurd h (hn _ _)
      | ret => exact hQ σ1 a1 w1 g1 g2 g3
      | exit i => exact hQ σ1 a1 w1 g1 g2 g3
  | cond o x y ihx ihy =>
    intro E E' s s' σ a w xt Q hE hR h hQ
    simp only [codeD] at h
    split at h
    · rename_i hc
      obtain ⟨V, h1, _, h3⟩ := hE.dev hc
      exact wp_cond_true (h3.trans (val_bool h1)) (ihx hE hR h hQ)
    · rename_i hc
      obtain ⟨V, h1, _, h3⟩ := hE.dev hc
      exact wp_cond_false (h3.trans (val_bool h1)) (ihy hE hR h hQ)
    · cases h
  | block i x ih =>
    intro E E' s s' σ a w xt Q hE hR h hQ
    simp only [codeD] at h
    refine wp_block ?_
    split at h
    · rename_i j E1 s1 hx
      cases hb : Nat.beq j i with
      | true =>
        rw [hb] at h
        simp only [cond_true, Option.some.injEq, Prod.mk.injEq] at h
        obtain ⟨rfl, rfl, rfl⟩ := h
        have := Nat.eq_of_beq_eq_true hb
        subst this
        refine ih hE hR hx fun σ1 a1 w1 g1 g2 g3 => ?_
        simp only [Xt.ex, Exit.inBlock, if_true]
        exact hQ σ1 a1 w1 g1 g2 g3
      | false =>
        rw [hb] at h
        simp only [cond_false, Option.some.injEq, Prod.mk.injEq] at h
        obtain ⟨rfl, rfl, rfl⟩ := h
        have hne : j ≠ i := fun e => by subst e; rw [Nat.beq_refl] at hb; cases hb
        refine ih hE hR hx fun σ1 a1 w1 g1 g2 g3 => ?_
        simp only [Xt.ex, Exit.inBlock, hne, if_false]
        exact hQ σ1 a1 w1 g1 g2 g3
    · rename_i hn
      refine ih hE hR h fun σ1 a1 w1 g1 g2 g3 => ?_
      cases xt with
      | norm => exact hQ σ1 a1 w1 g1 g2 g3
      | ret => exact hQ σ1 a1 w1 g1 g2 g3
      | exit j => exact absurd h (hn _ _ _)
  | loop x ih =>
    intro E E' s s' σ a w xt Q hE hR h hQ
    simp only [codeD] at h
    refine wp_loop_ghost (fun m a w => ∃ E1 s1 σ1, Grow s s1 σ σ1 ∧ EnvR σ1 n E1 a ∧ Rel G σ1 s1 w ∧ loopD (codeD P0 call lf n x) m E1 s1 = some (xt, E', s')) lf ⟨E, s, σ, Grow.refl _ _, hE, hR, h⟩ ?_
    rintro m a w ⟨E1, s1, σ1, hg, hE1, hR1, hl⟩
    cases m with
    | zero => simp only [loopD] at hl; cases hl
    | succ m =>
      simp only [loopD] at hl
      split at hl
      · rename_i E2 s2 hx
        exact ih hE1 hR1 hx fun σ2 a2 w2 g1 g2 g3 => ⟨m, Nat.lt_succ_self m, E2, s2, σ2, hg.trans g1, g2, g3, hl⟩
      · rename_i hn
        refine ih hE1 hR1 hl fun σ2 a2 w2 g1 g2 g3 => ?_
        cases xt with
        | norm => exact absurd hl (hn _ _)
        | ret => exact hQ σ2 a2 w2 (hg.trans g1) g2 g3
        | exit i => exact hQ σ2 a2 w2 (hg.trans g1) g2 g3
  | _ =>
    intro E E' s s' σ a w xt Q hE hR h hQ
    simp only [codeD] at h
    cases h
end
end Go.D
