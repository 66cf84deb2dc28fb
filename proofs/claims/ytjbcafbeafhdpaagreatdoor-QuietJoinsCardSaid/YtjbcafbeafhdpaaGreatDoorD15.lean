/- Regions that draw their order: the whole. -/
import Derived.Test.YtjbcafbeafhdpaaGreatDoorD14
set_option maxRecDepth 10000
set_option linter.unusedVariables false
set_option linter.unusedSimpArgs false
namespace Go.D
open Go.SL Go.RowKit
section
variable {P : Program} {P0 : Env0} {call : CallF} {Λs : Lay} {G : Gh} {n : Nat} {ops : Array Oper} {E0 : DE} {s0 : St} {σ0 : Sg}
variable {em : Nat} {res : Nat → DV} {ej : Nat → DE} {rank : Nat → Nat} {rk : Nat} {E : DE} {s : St} {pend : Pend} {chk : List Chk} {σ : Sg} {listed : Array Bool} {a : Act} {w : World}
def upd {α : Type} (f : Nat → α) (i : Nat) (v : α) : Nat → α := fun j => if j = i then v else f j
theorem upd_self {α : Type} (f : Nat → α) (i : Nat) (v : α) : upd f i v i = v := by simp [upd]
theorem upd_ne {α : Type} (f : Nat → α) {i j : Nat} (v : α) (h : j ≠ i) : upd f i v j = f j := by simp [upd, h]
theorem Obl.congr {res' : Nat → DV} {ej' : Nat → DE} {j : Nat} {o : Oper} (h : Obl P0 ops res ej s pend σ j o) (h1 : res' j = res j) (h2 : ej' j = ej j) : Obl P0 ops res' ej' s pend σ j o := ⟨by rw [h1, h2]; exact h.or⟩
/-- One more operation is evaluated; σ, the listed ones and the world: new ones. -/
theorem Inv.next {steps : List Step} (hok : regOk ops.toList steps = true) (I : Inv P0 ops n E0 s0 σ0 em res ej rank rk E s pend chk G σ listed a w) {i : Nat} {o : Oper} (ho : ops[i]? = some o) (hi : hasB em i = false) (hw : ∀ k, waits ops.toList i k → hasB em k = true) {v : DV} {E' : DE} (hp : dput n E o.dst v = some E')
    {s' : St} {pend' : Pend} {chk' : List Chk} {σ' : Sg} {listed' : Array Bool} {a' : Act} {w' : World}
    (hrl : Rl ops n E0 (upd res i v) listed' σ' a') (hmono : ∀ k, lst listed k → lst listed' k) (hsub : ∀ k, lst listed' k → hasB em k = true ∨ k = i) (hls : listed'.size = ops.size)
    (hobl : ∀ j o', hasB em j = true → ¬ lst listed' j → ops[j]? = some o' → Obl P0 ops res ej s' pend' σ' j o') (hobi : ¬ lst listed' i → Obl P0 ops (upd res i v) (upd ej i (onlyD E (slotsD ops.toList o))) s' pend' σ' i o)
    (hg : Grow s0 s' σ0 σ') (hh : HR G s' pend' listed' σ' w')
    (hchk : ∀ c ∈ chk, c ∈ chk') (hchi : ¬ lst listed' i → isLoad o.op = true → wantsD ops.toList (onlyD E (slotsD ops.toList o)) o.guard = some true → ∃ c ∈ chk', c.i = i ∧ c.e = onlyD E (slotsD ops.toList o) ∧ c.op = o.op ∧ c.v = v)
    (hpe : ∀ j id ob, pend' = some (j, id, ob) → (pend = some (j, id, ob) ∧ id < s'.nx ∧ s'.h.get id = none) ∨ (j = i ∧ id < s'.nx ∧ s'.h.get id = none ∧ s0.nx ≤ id ∧ wantsD ops.toList (onlyD E (slotsD ops.toList o)) o.guard = some true ∧ allocD P0.tys (onlyD E (slotsD ops.toList o)) id o.op = some (v, ob))) :
    Inv P0 ops n E0 s0 σ0 (Nat.lor em (2 ^ i)) (upd res i v) (upd ej i (onlyD E (slotsD ops.toList o))) (upd rank i rk) (rk + 1) E' s' pend' chk' G σ' listed' a' w' := by
  have hm : ∀ k, hasB (Nat.lor em (2 ^ i)) k = true ↔ hasB em k = true ∨ i = k := fun k => by rw [hasB_or, hasB_pow]; simp
  have hne : ∀ k, hasB em k = true → k ≠ i := fun k hk e => by subst e; rw [hi] at hk; cases hk
  have hilt : i < ops.size := (Array.getElem?_eq_some_iff.1 ho).1
  refine ⟨I.ev.step ho hi hw hp, hrl, fun k hk => (hm k).2 ((hsub k hk).imp id Eq.symm), hls, fun k hk => ?_, fun j o' d hj ho' hd => ?_, fun j hj => ?_, fun j o' hj hn ho' => ?_, hg, hh, fun j o' hj hnl ho' hl hwt => ?_, fun j id ob hpj => ?_⟩
  · rcases (hm k).1 hk with h | rfl
    · exact I.emlt k h
    · exact hilt
  · rcases (hm j).1 hj with h | rfl
    · exact I.dn j o' d h ho' hd
    · rw [ho] at ho'; injection ho' with ho'; subst ho'
      rw [hd] at hp
      exact dput_lt hp
  · rcases (hm j).1 hj with h | rfl
    · rw [upd_ne _ _ (hne j h)]
      exact (I.jen j h).congr fun k hk => upd_ne _ _ (hne k (I.ev.closed j k h hk).1)
    · rw [upd_self]
      exact (I.ev.jenv hok ho hi hw).congr fun k hk => upd_ne _ _ (hne k (hw k hk))
  · rcases (hm j).1 hj with h | rfl
    · exact (hobl j o' h hn ho').congr (upd_ne _ _ (hne j h)) (upd_ne _ _ (hne j h))
    · rw [ho] at ho'; injection ho' with ho'; subst ho'
      exact hobi hn
  · rcases (hm j).1 hj with h | rfl
    · rw [upd_ne _ _ (hne j h)] at hwt
      obtain ⟨c, h1, h2, h3, h4, h5⟩ := I.chk j o' h (fun g => hnl (hmono j g)) ho' hl hwt
      exact ⟨c, hchk c h1, h2, by rw [upd_ne _ _ (hne j h)]; exact h3, h4, by rw [upd_ne _ _ (hne j h)]; exact h5⟩
    · rw [ho] at ho'; injection ho' with ho'; subst ho'
      rw [upd_self] at hwt
      obtain ⟨c, h1, h2, h3, h4, h5⟩ := hchi hnl hl hwt
      exact ⟨c, h1, h2, by rw [upd_self]; exact h3, h4, by rw [upd_self]; exact h5⟩
  · rcases hpe j id ob hpj with ⟨h1, h2, h3⟩ | ⟨rfl, h2, h3, h4, h5, h6⟩
    · obtain ⟨k1, _, _, k4, o', k5, k6, k7⟩ := I.pend j id ob h1
      refine ⟨(hm j).2 (.inl k1), h2, h3, k4, o', k5, ?_, ?_⟩
      · rw [upd_ne _ _ (hne j k1)]; exact k6
      · rw [upd_ne _ _ (hne j k1), upd_ne _ _ (hne j k1)]; exact k7
    · exact ⟨(hm j).2 (.inr rfl), h2, h3, h4, o, ho, by rw [upd_self]; exact h5, by rw [upd_self, upd_self]; exact h6⟩
/-- Some operation is ready. -/
theorem someReady (I : Inv P0 ops n E0 s0 σ0 em res ej rank rk E s pend chk G σ listed a w) : ∀ (r j : Nat), rank j ≤ r → hasB em j = true → ¬ lst listed j → ∃ k, k ∈ Region.ready .any ops listed
  | r, j, hr, hj, hn => by
    have hlt := I.emlt j hj
    have hu : listed.getD j true = false := by
      unfold lst at hn
      have : j < listed.size := by rw [I.lsize]; exact hlt
      simp [Array.getD_eq_getD_getElem?, this] at hn ⊢
      exact hn
    by_cases hd : ∀ k, waits ops.toList j k → lst listed k
    · refine ⟨j, mem_ready.2 ⟨hu, ops[j], by simp [hlt], fun e he hb => ?_⟩⟩
      exact hd e.on ⟨ops[j], by simp [hlt], (maskD_spec _ _).2 ⟨e, by simpa using he, hb, rfl⟩⟩
    · have : ∃ k, waits ops.toList j k ∧ ¬ lst listed k := by
        apply Classical.byContradiction
        intro hc
        exact hd fun k hk => Classical.byContradiction fun hl => hc ⟨k, hk, hl⟩
      obtain ⟨k, hk, hl⟩ := this
      obtain ⟨h1, h2⟩ := I.ev.closed j k hj hk
      cases r with
      | zero => omega
      | succ r => exact someReady I r k (by omega) h1 hl
/-- Whatever comes next: what is evaluated is done; what is not is told. -/
theorem inner {steps : List Step} (hok : regOk ops.toList steps = true) (hT : TysOk P P0.tys Λs) {Q : Exit → Act → World → Prop}
    (hend : ∀ σ listed a w, Inv P0 ops n E0 s0 σ0 em res ej rank rk E s pend chk G σ listed a w → (∀ j, j < ops.size → lst listed j) → Q .normal a w)
    (hsome : ∀ σ listed a w, Inv P0 ops n E0 s0 σ0 em res ej rank rk E s pend chk G σ listed a w → (∀ j, hasB em j = true → lst listed j) → (∃ j, j < ops.size ∧ ¬ lst listed j) → ∃ k, k ∈ Region.ready .any ops listed)
    (hnew : ∀ fuel σ listed a w, Inv P0 ops n E0 s0 σ0 em res ej rank rk E s pend chk G σ listed a w → cntF listed.toList ≤ fuel + 1 → ∀ j o, hasB em j = false → listed.getD j true = false → ops[j]? = some o → (∀ k, waits ops.toList j k → lst listed k) →
      wpOp P ops Q j (wpAny P .any ops Q fuel (listed.setIfInBounds j true)) a w) :
    ∀ (fuel : Nat) (σ : Sg) (listed : Array Bool) (a : Act) (w : World), Inv P0 ops n E0 s0 σ0 em res ej rank rk E s pend chk G σ listed a w → cntF listed.toList ≤ fuel → wpAny P .any ops Q fuel listed a w := by
  have noReady : ∀ σ listed a w, Inv P0 ops n E0 s0 σ0 em res ej rank rk E s pend chk G σ listed a w → Region.ready .any ops listed = [] → Q .normal a w := by
    intro σ listed a w I hr
    refine hend σ listed a w I fun j hj => Classical.byContradiction fun hn => ?_
    by_cases hall : ∀ j, hasB em j = true → lst listed j
    · obtain ⟨k, hk⟩ := hsome σ listed a w I hall ⟨j, hj, hn⟩
      rw [hr] at hk; cases hk
    · have : ∃ k, hasB em k = true ∧ ¬ lst listed k := by
        apply Classical.byContradiction
        intro hc
        exact hall fun k hk => Classical.byContradiction fun hl => hc ⟨k, hk, hl⟩
      obtain ⟨k, hk, hl⟩ := this
      obtain ⟨k', hk'⟩ := someReady I (rank k) k (Nat.le_refl _) hk hl
      rw [hr] at hk'; cases hk'
  intro fuel
  induction fuel with
  | zero =>
    intro σ listed a w I hc
    have hz : cntF listed.toList = 0 := by omega
    have hall : ∀ j, j < ops.size → lst listed j := fun j hj => by
      have := cntF_zero _ hz j (by simpa [I.lsize] using hj)
      unfold lst
      simp only [Array.getElem?_toList] at this
      rw [Array.getD_eq_getD_getElem?, this]
      rfl
    refine ⟨?_, hend σ listed a w I hall⟩
    apply List.eq_nil_iff_forall_not_mem.2
    intro j hj
    obtain ⟨h1, o, h2, _⟩ := mem_ready.1 hj
    exact (lst_unlisted h1).1 (hall j (Array.getElem?_eq_some_iff.1 h2).1)
  | succ fuel ih =>
    intro σ listed a w I hc
    refine ⟨noReady σ listed a w I, fun j hj => ?_⟩
    obtain ⟨h1, o, h2, h3⟩ := mem_ready.1 hj
    have hw := waits_ready (listed := listed) h2 h3
    have hcnt : cntF (listed.setIfInBounds j true).toList + 1 = cntF listed.toList := by
      rw [Array.toList_setIfInBounds]
      refine cntF_set _ j ?_
      rw [Array.getElem?_toList]
      have := (lst_unlisted h1).2
      simp [Array.getD_eq_getD_getElem?, this] at h1 ⊢
      exact h1
    cases hem : hasB em j with
    | true => exact exec_ev hok hT I hem h1 h2 hw fun σ' a' w' I' => ih σ' _ a' w' I' (by omega)
    | false => exact hnew fuel σ listed a w I hc j o hem h1 h2 hw
end
end Go.D
