/- Calls. -/
import Derived.Test.YtjbcafbeafhdpaaGreatDoorD17
set_option maxRecDepth 10000
set_option linter.unusedVariables false
set_option linter.unusedSimpArgs false
namespace Go.D
open Go.SL Go.RowKit
section
variable {P : Program} {P0 : Env0} {call : CallF} {Λs : Lay} {G : Gh} {n : Nat}
theorem argsD_get : ∀ (vs : List DV) (i : Nat) (E : DE) (t : Nat), (argsD i vs E).get t = if i ≤ t ∧ t < i + vs.length then vs[t - i]? else E.get t
  | [], i, E, t => by simp only [argsD, List.length_nil, Nat.add_zero]; rw [if_neg (by omega)]
  | v :: vs, i, E, t => by
    rw [argsD, argsD_get vs (i + 1) _ t, T.get_set]
    simp only [List.length_cons]
    by_cases h1 : i + 1 ≤ t ∧ t < i + 1 + vs.length
    · rw [if_pos h1, if_pos (by omega), show t - i = (t - (i + 1)) + 1 by omega, List.getElem?_cons_succ]
    · rw [if_neg h1]
      by_cases h2 : t = i
      · subst h2
        rw [if_pos rfl, if_pos (by omega), Nat.sub_self, List.getElem?_cons_zero]
      · rw [if_neg h2, if_neg (by omega)]
theorem args_env {σ : Sg} {args : List DV} {Vs : List Value} {m : Nat} (h : vals σ args = some Vs) (hm : args.length ≤ m) : EnvR σ m (argsD 0 args .emp) { tmps := Vs.toArray ++ Array.replicate (m - Vs.toArray.size) undef, defers := [] } := by
  have hl := vals_length h
  refine ⟨by simp; omega, rfl, fun t v ht => ?_⟩
  rw [argsD_get] at ht
  simp only [Nat.zero_le, true_and, Nat.zero_add, Nat.sub_zero] at ht
  split at ht
  · rename_i hlt
    obtain ⟨V, k1, k2⟩ := vals_get t h ht
    refine ⟨by omega, V, k1, ?_⟩
    rw [Array.getD_eq_getD_getElem?, Array.getElem?_append_left (by simp; omega)]
    simp [k2]
  · cases ht
def resOne (tmps : Array Value) : ResultVar → Sem Value
  | .tmp t => pure (tmps.getD t undef)
  | .cell q t => do loadVar t (← asAddr (tmps.getD q undef))
theorem results_eq (fn : Func) (tmps : Array Value) : results fn tmps = (do let vs ← fn.results.mapM (resOne tmps); pure (if h : vs.size = 1 then vs[0] else .tuple vs)) := by
  unfold results
  congr 1
theorem results_run (hT : TysOk P P0.tys Λs) {σ : Sg} {s : St} {a : Act} {w : World} {E : DE} (hE : EnvR σ n E a) (hR : Rel G σ s w) : ∀ (rs : List ResultVar) (vs : List DV), resD P0.tys E s.h rs = some vs →
    ∃ Vs, vals σ vs = some Vs ∧ (rs.mapM (resOne a.tmps)).run P w = .ok Vs w
  | [], vs, h => by
    simp only [resD, Option.some.injEq] at h
    subst h
    exact ⟨[], rfl, by simp⟩
  | .tmp t :: r, vs, h => by
    simp only [resD] at h
    split at h
    · rename_i v us hv hus
      simp only [Option.some.injEq] at h
      subst h
      obtain ⟨Vs, h1, h2⟩ := results_run hT hE hR r us hus
      obtain ⟨_, V, h3, h4⟩ := hE.at_ t v hv
      refine ⟨V :: Vs, vals_cons_of h3 h1, ?_⟩
      simp only [List.mapM_cons, resOne, Sem.run_bind, Sem.run_pure, Result.andThen_ok, h4, h2]
    · cases h
  | .cell q t :: r, vs, h => by
    simp only [resD] at h
    split at h
    · rename_i b o i us hq hi hus
      split at h
      · rename_i cs hcs
        split at h
        · rename_i v hv
          simp only [Option.some.injEq] at h
          subst h
          obtain ⟨Vs, h1, h2⟩ := results_run hT hE hR r us hus
          obtain ⟨_, Q, h3, h4⟩ := hE.at_ q _ hq
          obtain ⟨L, hL, rfl⟩ := val_ptr h3
          obtain ⟨L', Cs, hL', hCs, hlen, hcell⟩ := hR.cellsAt hcs
          rw [hL] at hL'; injection hL' with hL'; subst hL'
          obtain ⟨V, k1, k2⟩ := whole_val hCs hv
          have hload := run_loadVar (P := P) (hT.ti hi) (b := L.b) (p := L.base + o) (cs := Cs) hlen k2 (w := w) hcell
          refine ⟨V :: Vs, vals_cons_of k1 h1, ?_⟩
          have e1 : (asAddr (a.tmps.getD q undef)).run P w = .ok ⟨L.b, L.base + o, none⟩ w := by rw [h4]; simp [asAddr]
          simp only [List.mapM_cons, resOne, Sem.run_bind, Sem.run_pure, Result.andThen_ok, e1, hload, h2]
        · cases h
      · cases h
    · cases h
/-- The table of functions is the program's. -/
def FnsOk (P : Program) (fns : T Func) : Prop := ∀ f fn, fns.get f = some fn → P.funcs[f]? = some fn ∧ (fn.name == "runtime.NumGoroutine") = false
/-- What a call's evaluation tells, at one function. -/
def CallAt (P : Program) (f : Nat) (args : List DV) (s : St) (v : DV) (s' : St) : Prop := ∀ G σ w Vs, Rel G σ s w → vals σ args = some Vs →
    (∀ w, (callFunc f Vs.toArray).run P w = .ok (.enter f Vs.toArray) w) ∧ Calls P f Vs.toArray w fun e w' => ∃ σ' V, Grow s s' σ σ' ∧ e = .returned V ∧ val σ' v = some V ∧ Rel G σ' s' w'
def PrimsOk (P : Program) (P0 : Env0) : Prop := ∀ f p, P0.prims.get f = some p → ∀ args s v s', primD p args s = some (v, s') → CallAt P f args s v s'
theorem call_sound (hm : P.follows .mixedOrders = true) (hT : TysOk P P0.tys Λs) (hX : ExtsOk P P0) (hF : FnsOk P P0.fns) (hP : PrimsOk P P0) (lf : Nat) : ∀ d, CallOk P (callD P0 lf d)
  | 0 => ⟨fun f args s v s' h => by simp only [callD] at h; cases h⟩
  | d + 1 => ⟨fun f args s v s' h => by
    have ih := call_sound hm hT hX hF hP lf d
    simp only [callD] at h
    split at h
    · rename_i p hp
      exact hP f p hp args s v s' h
    · split at h
      · rename_i fn hfn
        obtain ⟨hf1, hf2⟩ := hF f fn hfn
        split at h
        · rename_i c hb
          cases hle : Nat.ble args.length fn.ntmps with
          | false => rw [hle] at h; cases h
          | true =>
          rw [hle] at h
          simp only [Bool.not_true, cond_false] at h
          have hle' := Nat.le_of_ble_eq_true hle
          intro G σ w Vs hR hVs
          refine ⟨fun w => enters_of' hf1 hf2 (by rw [hb]; rfl) _ _, calls_of_wp hf1 hb ?_⟩
          have hE := args_env hVs hle'
          split at h
          · cases h
          · rename_i xt E1 s1 hnx hc
            refine code_sound hm hT hX ih c hE hR hc fun σ1 a1 w1 g1 g2 g3 => ?_
            have main : ∀ vs, resD P0.tys E1 s1.h fn.results.toList = some vs → ∃ Vs', vals σ1 vs = some Vs' ∧ (results fn a1.tmps).run P w1 = .ok (if h : Vs'.toArray.size = 1 then Vs'.toArray[0] else .tuple Vs'.toArray) w1 := by
              intro vs hvs
              obtain ⟨Vs', k1, k2⟩ := results_run (P := P) hT g2 g3 _ _ hvs
              refine ⟨Vs', k1, ?_⟩
              rw [results_eq, Array.mapM_eq_mapM_toList]
              simp only [bind_map_left, Sem.run_bind]
              rw [k2]
              simp
            have done : ∀ V, val σ1 v = some V → s' = s1 → (results fn a1.tmps).run P w1 = .ok V w1 → bodyPost P fn (fun e w' => ∃ σ' V, Grow s s' σ σ' ∧ e = .returned V ∧ val σ' v = some V ∧ Rel G σ' s' w') xt.ex a1 w1 := by
              intro V hV hs hr
              subst hs
              have : bodyPost P fn (fun e w' => ∃ σ' V, Grow s s' σ σ' ∧ e = .returned V ∧ val σ' v = some V ∧ Rel G σ' s' w') .ret a1 w1 := ⟨g2.defers, V, hr, σ1, V, g1, rfl, hV, g3⟩
              cases xt with
              | norm => exact this
              | ret => exact this
              | exit i => exact absurd rfl (hnx i)
            split at h
            · rename_i u hvs
              simp only [Option.some.injEq, Prod.mk.injEq] at h
              obtain ⟨rfl, rfl⟩ := h
              obtain ⟨Vs', k1, k2⟩ := main _ hvs
              obtain ⟨V, R, k3, k4, rfl⟩ := vals_cons k1
              simp only [vals, Option.some.injEq] at k4
              subst k4
              exact done V k3 rfl (by simpa using k2)
            · rename_i vs hne hvs
              simp only [Option.some.injEq, Prod.mk.injEq] at h
              obtain ⟨rfl, rfl⟩ := h
              obtain ⟨Vs', k1, k2⟩ := main _ hvs
              have hl := vals_length k1
              refine done (.tuple Vs'.toArray) (by simp [val, k1]) rfl ?_
              rw [k2, dif_neg]
              intro h1
              simp at h1
              rw [hl] at h1
              match vs, h1 with
              | [u], _ => exact hne u rfl
            · cases h
          · cases h
        · cases h
      · cases h⟩
end
end Go.D
