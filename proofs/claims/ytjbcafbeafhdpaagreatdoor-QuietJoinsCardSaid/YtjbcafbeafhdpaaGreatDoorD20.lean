/- A call whose run goes one of two ways at a test that what is known does not settle: evaluated in two parts. -/
import Derived.Test.YtjbcafbeafhdpaaGreatDoorD19
set_option maxRecDepth 10000
set_option linter.unusedVariables false
namespace Go.D
open Go.SL Go.RowKit
section
variable {P : Program} {P0 : Env0} {Λs : Lay} {n : Nat} {G : Gh} {call : CallF}
/-- A run up to where slot t is known; what is left of the code. -/
def cutD (P : Env0) (call : CallF) (lf n t : Nat) : Nat → List Code → DE → St → Option (DE × St × List Code)
  | 0, _, _, _ => none
  | f + 1, cs, E, s => match E.get t with
    | some _ => some (E, s, cs)
    | none => match cs with
      | [] => none
      | .seq a b :: cs => cutD P call lf n t f (a :: b :: cs) E s
      | c :: cs => match codeD P call lf n c E s with
        | some (.norm, E', s') => cutD P call lf n t f cs E' s'
        | _ => none
/-- One after the other. -/
def codesD (P : Env0) (call : CallF) (lf n : Nat) : List Code → DE → St → Option (Xt × DE × St)
  | [], E, s => some (.norm, E, s)
  | c :: cs, E, s => match codeD P call lf n c E s with
    | some (.norm, E', s') => codesD P call lf n cs E' s'
    | r => r
def wps (P : Program) (Q : Exit → Act → World → Prop) : List Code → Act → World → Prop
  | [] => Q .normal
  | c :: cs => c.wp P (Exit.then (wps P Q cs) Q)
theorem then_then {K K' : Act → World → Prop} {Q : Exit → Act → World → Prop} : Exit.then K (Exit.then K' Q) = Exit.then K Q := by
  funext e
  cases e <;> rfl
theorem cut_sound (hm : P.follows .mixedOrders = true) (hT : TysOk P P0.tys Λs) (hX : ExtsOk P P0) (hC : CallOk P call) {lf t : Nat} : ∀ (k : Nat) (cs : List Code) {E E' : DE} {s s' : St} {cs' : List Code} {σ : Sg} {a : Act} {w : World} {Q : Exit → Act → World → Prop}, EnvR σ n E a → Rel G σ s w →
    cutD P0 call lf n t k cs E s = some (E', s', cs') → (∀ σ' a' w', Grow s s' σ σ' → EnvR σ' n E' a' → Rel G σ' s' w' → wps P Q cs' a' w') → wps P Q cs a w := by
  intro k
  induction k with
  | zero =>
    intro cs E E' s s' cs' σ a w Q hE hR h hQ
    simp only [cutD] at h
    cases h
  | succ k ih =>
    intro cs E E' s s' cs' σ a w Q hE hR h hQ
    unfold cutD at h
    split at h
    · simp only [Option.some.injEq, Prod.mk.injEq] at h
      obtain ⟨rfl, rfl, rfl⟩ := h
      exact hQ σ a w (Grow.refl _ _) hE hR
    · split at h
      · cases h
      · rename_i x y cs0
        have := ih (x :: y :: cs0) hE hR h hQ
        simp only [wps] at this ⊢
        refine wp_seq ?_
        rw [then_then]
        exact this
      · rename_i c cs0 hne
        split at h
        · rename_i E1 s1 hx
          simp only [wps]
          exact code_sound hm hT hX hC c hE hR hx fun σ1 a1 w1 g1 g2 g3 => ih cs0 g2 g3 h fun σ2 a2 w2 k1 k2 k3 => hQ σ2 a2 w2 (g1.trans k1) k2 k3
        · cases h
theorem codes_sound (hm : P.follows .mixedOrders = true) (hT : TysOk P P0.tys Λs) (hX : ExtsOk P P0) (hC : CallOk P call) {lf : Nat} : ∀ (cs : List Code) {E E' : DE} {s s' : St} {σ : Sg} {a : Act} {w : World} {xt : Xt} {Q : Exit → Act → World → Prop}, EnvR σ n E a → Rel G σ s w →
    codesD P0 call lf n cs E s = some (xt, E', s') → (∀ σ' a' w', Grow s s' σ σ' → EnvR σ' n E' a' → Rel G σ' s' w' → Q xt.ex a' w') → wps P Q cs a w := by
  intro cs
  induction cs with
  | nil =>
    intro E E' s s' σ a w xt Q hE hR h hQ
    simp only [codesD, Option.some.injEq, Prod.mk.injEq] at h
    obtain ⟨rfl, rfl, rfl⟩ := h
    exact hQ σ a w (Grow.refl _ _) hE hR
  | cons c cs ih =>
    intro E E' s s' σ a w xt Q hE hR h hQ
    simp only [codesD] at h
    simp only [wps]
    split at h
    · rename_i E1 s1 hx
      exact code_sound hm hT hX hC c hE hR hx fun σ1 a1 w1 g1 g2 g3 => ih g2 g3 h fun σ2 a2 w2 k1 k2 k3 => hQ σ2 a2 w2 (g1.trans k1) k2 k3
    · rename_i hn
      refine code_sound hm hT hX hC c hE hR h fun σ1 a1 w1 g1 g2 g3 => ?_
      cases xt with
      | norm => exact absurd h (hn _ _)
      | ret => exact hQ σ1 a1 w1 g1 g2 g3
      | exit i => exact hQ σ1 a1 w1 g1 g2 g3
theorem wp_of_wps {c : Code} {Q : Exit → Act → World → Prop} {a : Act} {w : World} (h : wps P Q [c] a w) : c.wp P Q a w := by
  simp only [wps] at h
  have e : Exit.then (Q .normal) Q = Q := by
    funext e
    cases e <;> rfl
  rwa [e] at h
theorem EnvR.setEq {σ : Sg} {E : DE} {a : Act} {t : Nat} {v u : DV} (h : EnvR σ n E a) (ht : E.get t = some v) (e : v = u) : EnvR σ n (E.set t (some u)) a := by
  subst e
  refine ⟨h.size, h.defers, fun j x hj => ?_⟩
  rw [T.get_set] at hj
  split at hj
  · rename_i hjt
    injection hj with hj
    subst hj
    subst hjt
    exact h.at_ _ _ ht
  · exact h.at_ j x hj
/-- The whole call: where slot t is first known it is taken for b; what stood there is told. -/
def call2D (P : Env0) (lf d : Nat) (f : Nat) (args : List DV) (s : St) (k t : Nat) (b : DV) : Option (DV × DV × St) := match P.fns.get f with
  | some fn => match fn.body with
    | some c => bif !(Nat.ble args.length fn.ntmps) then none else match cutD P (callD P lf d) lf fn.ntmps t k [c] (argsD 0 args .emp) s with
      | some (E1, s1, c1) => match E1.get t with
        | some x => match codesD P (callD P lf d) lf fn.ntmps c1 (E1.set t (some b)) s1 with
          | some (.exit _, _, _) => none
          | some (_, E, s') => match resD P.tys E s'.h fn.results.toList with
            | some [v] => some (x, v, s')
            | some vs => some (x, .tuple vs, s')
            | none => none
          | none => none
        | none => none
      | none => none
    | none => none
  | none => none
theorem call2_sound (hm : P.follows .mixedOrders = true) (hT : TysOk P P0.tys Λs) (hX : ExtsOk P P0) (hF : FnsOk P P0.fns) (hP : PrimsOk P P0) {lf d f : Nat} {args : List DV} {s s' : St} {k t : Nat} {x v b : DV}
    (h : call2D P0 lf d f args s k t b = some (x, v, s')) (hx : x = b) : CallAt P f args s v s' := by
  have ih := call_sound hm hT hX hF hP lf d
  unfold call2D at h
  split at h
  · rename_i fn hfn
    obtain ⟨hf1, hf2⟩ := hF f fn hfn
    split at h
    · rename_i c hb
      cases hle : Nat.ble args.length fn.ntmps with
      | false => rw [hle] at h; cases h
      | true =>
      rw [hle] at h
      simp only [Bool.not_true, cond_false] at h
      have hle' := Nat.le_of_ble_eq_true hle
      intro G σ w Vs hR hVs
      refine ⟨fun w => enters_of' hf1 hf2 (by rw [hb]; rfl) _ _, calls_of_wp hf1 hb ?_⟩
      have hE := args_env hVs hle'
      split at h
      · rename_i E0 s0 c1 hcut
        refine wp_of_wps (cut_sound hm hT hX ih k [c] hE hR hcut fun σ0 a0 w0 g10 g20 g30 => ?_)
        split at h
        · rename_i y hy
          split at h
          · cases h
          · rename_i xt E1 s1 hnx hc
            have hyb : y = b := by
              split at h
              · simp only [Option.some.injEq, Prod.mk.injEq] at h; exact h.1.trans hx
              · simp only [Option.some.injEq, Prod.mk.injEq] at h; exact h.1.trans hx
              · cases h
            refine codes_sound hm hT hX ih c1 (g20.setEq hy hyb) g30 hc fun σ1 a1 w1 g1' g2 g3 => ?_
            have g1 := g10.trans g1'
            have main : ∀ vs, resD P0.tys E1 s1.h fn.results.toList = some vs → ∃ Vs', vals σ1 vs = some Vs' ∧ (results fn a1.tmps).run P w1 = .ok (if h : Vs'.toArray.size = 1 then Vs'.toArray[0] else .tuple Vs'.toArray) w1 := by
              intro vs hvs
              obtain ⟨Vs', k1, k2⟩ := results_run (P := P) hT g2 g3 _ _ hvs
              refine ⟨Vs', k1, ?_⟩
              rw [results_eq, Array.mapM_eq_mapM_toList]
              simp only [bind_map_left, Sem.run_bind]
              rw [k2]
              simp
            have done : ∀ V, val σ1 v = some V → s' = s1 → (results fn a1.tmps).run P w1 = .ok V w1 → bodyPost P fn (fun e w' => ∃ σ' V, Grow s s' σ σ' ∧ e = .returned V ∧ val σ' v = some V ∧ Rel G σ' s' w') xt.ex a1 w1 := by
              intro V hV hs hr
              subst hs
              have : bodyPost P fn (fun e w' => ∃ σ' V, Grow s s' σ σ' ∧ e = .returned V ∧ val σ' v = some V ∧ Rel G σ' s' w') .ret a1 w1 := ⟨g2.defers, V, hr, σ1, V, g1, rfl, hV, g3⟩
              cases xt with
              | norm => exact this
              | ret => exact this
              | exit i => exact absurd rfl (hnx i)
            split at h
            · rename_i u hvs
              simp only [Option.some.injEq, Prod.mk.injEq] at h
              obtain ⟨_, rfl, rfl⟩ := h
              obtain ⟨Vs', k1, k2⟩ := main _ hvs
              obtain ⟨V, R, k3, k4, rfl⟩ := vals_cons k1
              simp only [vals, Option.some.injEq] at k4
              subst k4
              exact done V k3 rfl (by simpa using k2)
            · rename_i vs hne hvs
              simp only [Option.some.injEq, Prod.mk.injEq] at h
              obtain ⟨_, rfl, rfl⟩ := h
              obtain ⟨Vs', k1, k2⟩ := main _ hvs
              have hl := vals_length k1
              refine done (.tuple Vs'.toArray) (by simp [val, k1]) rfl ?_
              rw [k2, dif_neg]
              intro h1
              simp at h1
              rw [hl] at h1
              match vs, h1 with
              | [u], _ => exact hne u rfl
            · cases h
          · cases h
        · cases h
      · cases h
    · cases h
  · cases h
end
end Go.D
