/- Regions that draw their order. -/
import Derived.Test.YtjbcafbeafhdpaaGreatDoorD12
set_option maxRecDepth 10000
set_option linter.unusedVariables false
set_option linter.unusedSimpArgs false
namespace Go.D
open Go.SL Go.RowKit
section
variable {P : Program} {P0 : Env0} {call : CallF} {Λs : Lay} {G : Gh} {n : Nat} {ops : Array Oper}
def lst (listed : Array Bool) (i : Nat) : Prop := listed.getD i false = true
/-- What is known of the slots that an operation looks at, as soon as all that it waits for is done. -/
structure Jenv (ops : Array Oper) (n : Nat) (E0 : DE) (res : Nat → DV) (j : Nat) (e : DE) : Prop where
  at_ : ∀ t v, e.get t = some v → t < n ∧ ((∃ i o, waits ops.toList j i ∧ i ≠ j ∧ ops[i]? = some o ∧ o.dst = some t ∧ res i = v) ∨ ((∀ i o, i ≠ j → ops[i]? = some o → o.dst = some t → waits ops.toList i j) ∧ E0.get t = some v))
/-- What the real run has done so far. -/
structure Rl (ops : Array Oper) (n : Nat) (E0 : DE) (res : Nat → DV) (listed : Array Bool) (σ : Sg) (a : Act) : Prop where
  size : a.tmps.size = n
  defers : a.defers = []
  written : ∀ i o t, lst listed i → ops[i]? = some o → o.dst = some t → ∃ V, val σ (res i) = some V ∧ a.tmps.getD t undef = V
  kept : ∀ t v, (∀ i o, lst listed i → ops[i]? = some o → o.dst ≠ some t) → E0.get t = some v → ∃ V, val σ v = some V ∧ a.tmps.getD t undef = V
  closed : ∀ i j, lst listed i → waits ops.toList i j → lst listed j
theorem Jenv.envR {E0 : DE} {res : Nat → DV} {j : Nat} {e : DE} {listed : Array Bool} {σ : Sg} {a : Act} (h : Jenv ops n E0 res j e) (r : Rl ops n E0 res listed σ a) (hj : ¬ lst listed j) (hw : ∀ i, waits ops.toList j i → lst listed i) : EnvR σ n e a := by
  refine ⟨r.size, r.defers, fun t v ht => ?_⟩
  obtain ⟨h1, h2⟩ := h.at_ t v ht
  refine ⟨h1, ?_⟩
  rcases h2 with ⟨i, o, h3, _, h4, h5, rfl⟩ | ⟨h3, h4⟩
  · exact r.written i o t (hw i h3) h4 h5
  · refine r.kept t v (fun i o hi ho hd => ?_) h4
    have hne : i ≠ j := fun e => hj (e ▸ hi)
    exact hj (r.closed i j hi (h3 i o hne ho hd))
theorem Rl.mono {E0 : DE} {res : Nat → DV} {listed : Array Bool} {σ σ' : Sg} {a : Act} (r : Rl ops n E0 res listed σ a) (h : σ.le σ') : Rl ops n E0 res listed σ' a :=
  ⟨r.size, r.defers, fun i o t h1 h2 h3 => let ⟨V, k1, k2⟩ := r.written i o t h1 h2 h3; ⟨V, val_mono h k1, k2⟩, fun t v h1 h2 => let ⟨V, k1, k2⟩ := r.kept t v h1 h2; ⟨V, val_mono h k1, k2⟩, r.closed⟩
theorem lst_set {listed : Array Bool} {j i : Nat} (hj : j < listed.size) : lst (listed.setIfInBounds j true) i ↔ i = j ∨ lst listed i := by
  unfold lst
  by_cases e : j = i
  · subst e
    simp [Array.getD_eq_getD_getElem?, hj]
  · rw [Array.getD_eq_getD_getElem?, Array.getElem?_setIfInBounds_ne e, ← Array.getD_eq_getD_getElem?]
    constructor
    · exact .inr
    · rintro (h | h)
      · exact absurd h.symm e
      · exact h
/-- One more operation done. -/
theorem Rl.step {E0 : DE} {res : Nat → DV} {listed : Array Bool} {σ : Sg} {a : Act} {steps : List Step} (hok : regOk ops.toList steps = true) (r : Rl ops n E0 res listed σ a) {j : Nat} {o : Oper} (hj : ¬ lst listed j) (hsz : j < listed.size) (ho : ops[j]? = some o) (hw : ∀ i, waits ops.toList j i → lst listed i)
    (hdn : ∀ d, o.dst = some d → d < n) {V : Value} (hV : val σ (res j) = some V) : Rl ops n E0 res (listed.setIfInBounds j true) σ (a.put o.dst V) := by
  have hsize : (a.put o.dst V).tmps.size = n := by cases o.dst <;> simp [Act.put, r.size]
  have hdef : (a.put o.dst V).defers = [] := by cases o.dst <;> simp [Act.put, r.defers]
  have other : ∀ t, o.dst ≠ some t → (a.put o.dst V).tmps.getD t undef = a.tmps.getD t undef := fun t ht => by
    cases hd : o.dst with
    | none => rfl
    | some d =>
      have hne : d ≠ t := fun e => ht (by rw [hd, e])
      simp only [Act.put]
      rw [Array.getD_eq_getD_getElem?, Array.getElem?_setIfInBounds_ne hne, ← Array.getD_eq_getD_getElem?]
  have own : ∀ t, o.dst = some t → (a.put o.dst V).tmps.getD t undef = V := fun t ht => by
    rw [ht]
    simp only [Act.put]
    rw [Array.getD_eq_getD_getElem?, Array.getElem?_setIfInBounds_self_of_lt (by rw [r.size]; exact hdn t ht)]
    rfl
  refine ⟨hsize, hdef, fun i o' t hi ho' ht => ?_, fun t v hno hv => ?_, fun i k hi hik => ?_⟩
  · rcases (lst_set hsz).1 hi with rfl | hi
    · rw [ho] at ho'; injection ho' with ho'; subst ho'
      exact ⟨V, hV, own t ht⟩
    · have hne : i ≠ j := fun e => hj (e ▸ hi)
      obtain ⟨U, k1, k2⟩ := r.written i o' t hi ho' ht
      have := (slots_ok hok (i := i) (j := j) (by rw [Array.getElem?_toList]; exact ho') (by rw [Array.getElem?_toList]; exact ho) hne ht).1
      exact ⟨U, k1, by rw [other t this]; exact k2⟩
  · have h1 : o.dst ≠ some t := hno j o ((lst_set hsz).2 (.inl rfl)) ho
    obtain ⟨U, k1, k2⟩ := r.kept t v (fun i o' hi ho' => hno i o' ((lst_set hsz).2 (.inr hi)) ho') hv
    exact ⟨U, k1, by rw [other t h1]; exact k2⟩
  · rcases (lst_set hsz).1 hi with rfl | hi
    · exact (lst_set hsz).2 (.inr (hw k hik))
    · exact (lst_set hsz).2 (.inr (r.closed i k hi hik))
/-- What the evaluation holds of its operations. -/
structure Ev (ops : Array Oper) (n : Nat) (E0 : DE) (em : Nat) (res : Nat → DV) (rank : Nat → Nat) (rk : Nat) (E : DE) : Prop where
  env : ∀ t v, E.get t = some v → t < n ∧ ((∃ i o, hasB em i = true ∧ ops[i]? = some o ∧ o.dst = some t ∧ res i = v) ∨ ((∀ i o, hasB em i = true → ops[i]? = some o → o.dst ≠ some t) ∧ E0.get t = some v))
  closed : ∀ i j, hasB em i = true → waits ops.toList i j → hasB em j = true ∧ rank j < rank i
  rank : ∀ i, hasB em i = true → rank i < rk
theorem Ev.jenv {E0 : DE} {em : Nat} {res : Nat → DV} {rank : Nat → Nat} {rk : Nat} {E : DE} {steps : List Step} (hok : regOk ops.toList steps = true) (h : Ev ops n E0 em res rank rk E) {j : Nat} {o : Oper} (ho : ops[j]? = some o) (hj : hasB em j = false) (hw : ∀ i, waits ops.toList j i → hasB em i = true) :
    Jenv ops n E0 res j (onlyD E (slotsD ops.toList o)) := by
  refine ⟨fun t v ht => ?_⟩
  obtain ⟨hm, hE⟩ := onlyD_get E _ t v ht
  obtain ⟨h1, h2⟩ := h.env t v hE
  refine ⟨h1, ?_⟩
  rcases h2 with ⟨i, oi, h3, h4, h5, h6⟩ | ⟨h3, h4⟩
  · have hne : i ≠ j := fun e => by subst e; rw [hj] at h3; cases h3
    have := (slots_ok hok (i := i) (j := j) (by rw [Array.getElem?_toList]; exact h4) (by rw [Array.getElem?_toList]; exact ho) hne h5).2 hm
    rcases this with h7 | h7
    · exact .inl ⟨i, oi, h7, hne, h4, h5, h6⟩
    · have := (h.closed i j h3 h7).1
      rw [hj] at this; cases this
  · refine .inr ⟨fun i oi hne hi hd => ?_, h4⟩
    have := (slots_ok hok (i := i) (j := j) (by rw [Array.getElem?_toList]; exact hi) (by rw [Array.getElem?_toList]; exact ho) hne hd).2 hm
    rcases this with h7 | h7
    · exact absurd hd (h3 i oi (hw i h7) hi)
    · exact h7
theorem Ev.step {E0 : DE} {em : Nat} {res : Nat → DV} {rank : Nat → Nat} {rk : Nat} {E E' : DE} (h : Ev ops n E0 em res rank rk E) {j : Nat} {o : Oper} (ho : ops[j]? = some o) (hj : hasB em j = false) (hw : ∀ i, waits ops.toList j i → hasB em i = true) {v : DV} (hp : dput n E o.dst v = some E') :
    Ev ops n E0 (Nat.lor em (2 ^ j)) (fun i => if i = j then v else res i) (fun i => if i = j then rk else rank i) (rk + 1) E' := by
  have hm : ∀ i, hasB (Nat.lor em (2 ^ j)) i = true ↔ hasB em i = true ∨ j = i := fun i => by rw [hasB_or, hasB_pow]; simp
  refine ⟨fun t u ht => ?_, fun i k hi hik => ?_, fun i hi => ?_⟩
  · have key : (o.dst = some t ∧ u = v ∧ t < n) ∨ (o.dst ≠ some t ∧ E.get t = some u) := by
      cases hd : o.dst with
      | none =>
        rw [hd] at hp
        simp only [dput, Option.some.injEq] at hp
        subst hp
        exact .inr ⟨by simp, ht⟩
      | some d =>
        rw [hd] at hp
        simp only [dput] at hp
        cases hb : Nat.blt d n with
        | false => rw [hb] at hp; cases hp
        | true =>
          rw [hb] at hp
          simp only [cond_true, Option.some.injEq] at hp
          subst hp
          rw [T.get_set] at ht
          by_cases e : t = d
          · subst e
            rw [if_pos rfl] at ht; injection ht with ht
            exact .inl ⟨rfl, ht.symm, by simpa [Nat.blt_eq] using hb⟩
          · rw [if_neg e] at ht
            exact .inr ⟨fun e2 => by injection e2 with e2; exact e e2.symm, ht⟩
    rcases key with ⟨h1, rfl, h3⟩ | ⟨h1, h2⟩
    · exact ⟨h3, .inl ⟨j, o, (hm j).2 (.inr rfl), ho, h1, by simp⟩⟩
    · obtain ⟨k1, k2⟩ := h.env t u h2
      refine ⟨k1, ?_⟩
      rcases k2 with ⟨i, oi, h3, h4, h5, h6⟩ | ⟨h3, h4⟩
      · have hne : i ≠ j := fun e => by subst e; rw [hj] at h3; cases h3
        exact .inl ⟨i, oi, (hm i).2 (.inl h3), h4, h5, by simp [hne, h6]⟩
      · refine .inr ⟨fun i oi hi hoi => ?_, h4⟩
        rcases (hm i).1 hi with hi | rfl
        · exact h3 i oi hi hoi
        · rw [ho] at hoi; injection hoi with hoi; subst hoi; exact h1
  · rcases (hm i).1 hi with hi2 | rfl
    · have hne : i ≠ j := fun e => by subst e; rw [hj] at hi2; cases hi2
      obtain ⟨h1, h2⟩ := h.closed i k hi2 hik
      have hne2 : k ≠ j := fun e => by subst e; rw [hj] at h1; cases h1
      exact ⟨(hm k).2 (.inl h1), by simp only [if_neg hne, if_neg hne2]; exact h2⟩
    · have h1 := hw k hik
      have hne2 : k ≠ j := fun e => by subst e; rw [hj] at h1; cases h1
      exact ⟨(hm k).2 (.inl h1), by simp only [if_neg hne2, if_true]; exact h.rank k h1⟩
  · rcases (hm i).1 hi with hi2 | rfl
    · have hne : i ≠ j := fun e => by subst e; rw [hj] at hi2; cases hi2
      simp only [if_neg hne]
      exact Nat.lt_succ_of_lt (h.rank i hi2)
    · simp
end
end Go.D
