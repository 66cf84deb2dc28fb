/- Regions that draw their order: what the checks tell; blocks set aside. -/
import Derived.Test.YtjbcafbeafhdpaaGreatDoorD10
set_option maxRecDepth 10000
set_option linter.unusedVariables false
set_option linter.unusedSimpArgs false
namespace Go.D
open Go.SL Go.RowKit

/-! ### Masks -/
theorem hasB_eq (ev i : Nat) : hasB ev i = ev.testBit i := by
  unfold hasB
  rw [Nat.testBit_eq_decide_div_mod_eq, Bool.eq_iff_iff]
  have h1 : Nat.shiftRight ev i = ev / 2 ^ i := Nat.shiftRight_eq_div_pow ev i
  have h2 : Nat.land (Nat.shiftRight ev i) 1 = (Nat.shiftRight ev i) % 2 := Nat.and_one_is_mod _
  rw [h2, h1]
  simp
theorem hasB_or (a b i : Nat) : hasB (Nat.lor a b) i = (hasB a i || hasB b i) := by
  simp only [hasB_eq]
  exact Nat.testBit_or a b i
theorem hasB_pow (j i : Nat) : hasB (2 ^ j) i = decide (j = i) := by rw [hasB_eq, Nat.testBit_two_pow]
theorem hasB_zero (i : Nat) : hasB 0 i = false := by rw [hasB_eq]; exact Nat.zero_testBit i
theorem subB_spec {d ev : Nat} (h : subB d ev = true) {i : Nat} (hi : hasB d i = true) : hasB ev i = true := by
  have h1 : Nat.land d ev = d := Nat.eq_of_beq_eq_true h
  rw [hasB_eq] at *
  have : (Nat.land d ev).testBit i = (d.testBit i && ev.testBit i) := Nat.testBit_and d ev i
  rw [h1, hi] at this
  simpa using this.symm
theorem subB_of {d ev : Nat} (h : ∀ i, hasB d i = true → hasB ev i = true) : subB d ev = true := by
  have : Nat.land d ev = d := by
    apply Nat.eq_of_testBit_eq
    intro i
    have h1 : (Nat.land d ev).testBit i = (d.testBit i && ev.testBit i) := Nat.testBit_and d ev i
    rw [h1]
    have := h i
    simp only [hasB_eq] at this
    cases hd : d.testBit i with
    | false => rfl
    | true => simp [this hd]
  unfold subB
  rw [this]
  exact Nat.beq_refl d
theorem maskD_spec : ∀ (es : List Edge) (i : Nat), hasB (maskD es) i = true ↔ ∃ e ∈ es, Region.binds .any e = true ∧ e.on = i
  | [], i => by simp [maskD, hasB_zero]
  | e :: r, i => by
    simp only [maskD]
    cases hb : Region.binds .any e with
    | true =>
      simp only [cond_true, hasB_or, hasB_pow, Bool.or_eq_true, decide_eq_true_eq, maskD_spec r i, List.mem_cons]
      constructor
      · rintro (h | ⟨f, h1, h2⟩)
        · exact ⟨e, .inl rfl, hb, h⟩
        · exact ⟨f, .inr h1, h2⟩
      · rintro ⟨f, rfl | h1, h2, h3⟩
        · exact .inl h3
        · exact .inr ⟨f, h1, h2, h3⟩
    | false =>
      simp only [cond_false, maskD_spec r i, List.mem_cons]
      constructor
      · rintro ⟨f, h1, h2⟩; exact ⟨f, .inr h1, h2⟩
      · rintro ⟨f, rfl | h1, h2⟩
        · rw [hb] at h2; cases h2.1
        · exact ⟨f, h1, h2⟩
theorem readyD_mem (ev : Nat) : ∀ (dl : List Nat) (k j : Nat) (d : Nat), dl[j]? = some d → hasB ev (k + j) = false → (∀ i, hasB d i = true → hasB ev i = true) → k + j ∈ readyD ev dl k
  | [], _, _, _, h, _, _ => by simp at h
  | d :: r, k, 0, d', h, h1, h2 => by
    simp only [List.getElem?_cons_zero, Option.some.injEq] at h
    subst h
    simp only [Nat.add_zero] at h1
    simp only [readyD, h1, subB_of h2, Bool.not_false, Bool.true_and, cond_true]
    simp
  | d :: r, k, j + 1, d', h, h1, h2 => by
    have := readyD_mem ev r (k + 1) j d' (by simpa using h) (by rw [show k + 1 + j = k + (j + 1) by omega]; exact h1) h2
    rw [show k + 1 + j = k + (j + 1) by omega] at this
    simp only [readyD]
    cases hb : (!(hasB ev k) && subB d ev) with
    | true => simp only [cond_true]; exact List.mem_cons_of_mem _ this
    | false => simpa only [cond_false] using this
theorem slotGo_spec {di i d : Nat} : ∀ (k : Nat) (dl : List Nat) (qs : List (Option Nat)) (sl : List (List Nat)), slotGo di i d k dl qs sl = true → ∀ (j dj : Nat) (qj : Option Nat) (sj : List Nat), dl[j]? = some dj → qs[j]? = some qj → sl[j]? = some sj → i ≠ k + j →
    qj ≠ some d ∧ (d ∈ sj → hasB dj i = true ∨ hasB di (k + j) = true)
  | k, [], _, _, _, j, dj, qj, sj, h1, _, _, _ => by simp at h1
  | k, _ :: _, [], _, _, j, dj, qj, sj, _, h2, _, _ => by simp at h2
  | k, _ :: _, _ :: _, [], _, j, dj, qj, sj, _, _, h3, _ => by simp at h3
  | k, d0 :: dl, q0 :: qs, s0 :: sl, h, 0, dj, qj, sj, h1, h2, h3, hne => by
    simp only [List.getElem?_cons_zero, Option.some.injEq] at h1 h2 h3
    subst h1; subst h2; subst h3
    simp only [slotGo, Bool.and_eq_true, Bool.or_eq_true] at h
    obtain ⟨h4, _⟩ := h
    have hbk : Nat.beq i k = false := by
      cases hb : Nat.beq i k with
      | false => rfl
      | true => exact absurd (Nat.eq_of_beq_eq_true hb) (by simpa using hne)
    rw [hbk] at h4
    simp only [Bool.false_eq_true, false_or] at h4
    obtain ⟨h5, h6⟩ := h4
    refine ⟨?_, fun hm => ?_⟩
    · intro e
      subst e
      simp at h5
    · rcases h6 with (h6 | h6) | h6
      · exfalso
        simp only [Bool.not_eq_true'] at h6
        have : s0.any (Nat.beq d) = true := by
          rw [List.any_eq_true]
          exact ⟨d, hm, Nat.beq_refl d⟩
        rw [this] at h6; cases h6
      · exact .inl h6
      · exact .inr h6
  | k, d0 :: dl, q0 :: qs, s0 :: sl, h, j + 1, dj, qj, sj, h1, h2, h3, hne => by
    simp only [slotGo, Bool.and_eq_true] at h
    have := slotGo_spec (k + 1) dl qs sl h.2 j dj qj sj (by simpa using h1) (by simpa using h2) (by simpa using h3) (by omega)
    rw [show k + 1 + j = k + (j + 1) by omega] at this
    exact this
theorem slotsGo_spec {dl0 : List Nat} {qs0 : List (Option Nat)} {sl0 : List (List Nat)} : ∀ (k : Nat) (dl : List Nat) (qs : List (Option Nat)), slotsGo dl0 qs0 sl0 k dl qs = true → ∀ (i di d : Nat), dl[i]? = some di → qs[i]? = some (some d) → slotGo di (k + i) d 0 dl0 qs0 sl0 = true
  | k, [], _, _, i, di, d, h1, _ => by simp at h1
  | k, _ :: _, [], _, i, di, d, _, h2 => by simp at h2
  | k, d0 :: dl, q0 :: qs, h, 0, di, d, h1, h2 => by
    simp only [List.getElem?_cons_zero, Option.some.injEq] at h1 h2
    subst h1; subst h2
    simp only [slotsGo, Bool.and_eq_true] at h
    exact h.1
  | k, d0 :: dl, q0 :: qs, h, i + 1, di, d, h1, h2 => by
    simp only [slotsGo, Bool.and_eq_true] at h
    have := slotsGo_spec (k + 1) dl qs h.2 i di d (by simpa using h1) (by simpa using h2)
    rw [show k + 1 + i = k + (i + 1) by omega] at this
    exact this
theorem masksD_get {l : List Oper} {i : Nat} {o : Oper} (h : l[i]? = some o) : (masksD l)[i]? = some (maskD o.after.toList) := by simp [masksD, h]
/-- Does operation i wait for operation j? -/
def waits (l : List Oper) (i j : Nat) : Prop := ∃ o, l[i]? = some o ∧ hasB (maskD o.after.toList) j = true
theorem slots_ok {l : List Oper} {steps : List Step} (h : regOk l steps = true) {i j : Nat} {oi oj : Oper} {d : Nat} (hi : l[i]? = some oi) (hj : l[j]? = some oj) (hne : i ≠ j) (hd : oi.dst = some d) :
    oj.dst ≠ some d ∧ (d ∈ slotsD l oj → waits l j i ∨ waits l i j) := by
  simp only [regOk, Bool.and_eq_true] at h
  have h1 := slotsGo_spec 0 _ _ h.2 i _ d (masksD_get hi) (by simp [hi, hd])
  have h2 := slotGo_spec 0 _ _ _ h1 j _ oj.dst (slotsD l oj) (masksD_get hj) (by simp [hj]) (by simp [hj]) (by omega)
  refine ⟨h2.1, fun hm => ?_⟩
  rcases h2.2 hm with h3 | h3
  · exact .inl ⟨oj, hj, by simpa using h3⟩
  · exact .inr ⟨oi, hi, by simpa using h3⟩
theorem aEq_eq : ∀ {a b : Option (Nat × Nat)}, aEq a b = true → a = b
  | none, none, _ => rfl
  | some a, some b, h => by
    simp only [aEq, Bool.and_eq_true] at h
    rw [Prod.ext (Nat.eq_of_beq_eq_true h.1) (Nat.eq_of_beq_eq_true h.2)]
  | none, some _, h => by cases h
  | some _, none, h => by cases h
theorem cEq_eq : ∀ {a b : Cap}, cEq a b = true → a = b
  | .known c, .known d, h => by rw [Nat.eq_of_beq_eq_true h]
  | .rest c x, .rest d y, h => by
    simp only [cEq, Bool.and_eq_true] at h
    rw [Nat.eq_of_beq_eq_true h.1, Nat.eq_of_beq_eq_true h.2]
  | .known _, .rest _ _, h => by cases h
  | .rest _ _, .known _, h => by cases h
theorem mEq_eq : ∀ {a b : Option Nat}, mEq a b = true → a = b
  | none, none, _ => rfl
  | some a, some b, h => by rw [Nat.eq_of_beq_eq_true h]
  | none, some _, h => by cases h
  | some _, none, h => by cases h
mutual
theorem dvEq_eq : ∀ {a b : DV}, dvEq a b = true → a = b
  | .int k a, b, h => by
    cases b <;> simp only [dvEq] at h <;> first | (cases h; done) | skip
    simp only [Bool.and_eq_true, decide_eq_true_eq] at h; rw [h.1, h.2]
  | .bool a, b, h => by
    cases b <;> simp only [dvEq] at h <;> first | (cases h; done) | skip
    simp only [beq_iff_eq] at h; rw [h]
  | .str a, b, h => by
    cases b <;> simp only [dvEq] at h <;> first | (cases h; done) | skip
    rw [beqB_eq] at h; simp only [decide_eq_true_eq] at h; rw [h]
  | .ptr a, b, h => by
    cases b <;> simp only [dvEq] at h <;> first | (cases h; done) | skip
    rw [aEq_eq h]
  | .slice a n c, b, h => by
    cases b <;> simp only [dvEq] at h <;> first | (cases h; done) | skip
    simp only [Bool.and_eq_true] at h
    rw [aEq_eq h.1.1, Nat.eq_of_beq_eq_true h.1.2, cEq_eq h.2]
  | .map a, b, h => by
    cases b <;> simp only [dvEq] at h <;> first | (cases h; done) | skip
    rw [mEq_eq h]
  | .func f a c, b, h => by
    cases b <;> simp only [dvEq] at h <;> first | (cases h; done) | skip
    simp only [Bool.and_eq_true] at h
    rw [Nat.eq_of_beq_eq_true h.1.1, dvsEq_eq h.1.2, dvsEq_eq h.2]
  | .nilFunc, b, h => by cases b <;> simp only [dvEq] at h <;> first | (cases h; done) | rfl
  | .nilIface, b, h => by cases b <;> simp only [dvEq] at h <;> first | (cases h; done) | rfl
  | .agg a, b, h => by
    cases b <;> simp only [dvEq] at h <;> first | (cases h; done) | skip
    rw [dvsEq_eq h]
  | .tuple a, b, h => by
    cases b <;> simp only [dvEq] at h <;> first | (cases h; done) | skip
    rw [dvsEq_eq h]
theorem dvsEq_eq : ∀ {a b : List DV}, dvsEq a b = true → a = b
  | [], [], _ => rfl
  | [], _ :: _, h => by simp [dvsEq] at h
  | _ :: _, [], h => by simp [dvsEq] at h
  | a :: r, b :: s, h => by
    simp only [dvsEq, Bool.and_eq_true] at h
    rw [dvEq_eq h.1, dvsEq_eq h.2]
end
end Go.D
