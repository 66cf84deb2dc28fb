/- Regions that draw their order: every step. -/
import Derived.Test.YtjbcafbeafhdpaaGreatDoorD15
set_option maxRecDepth 10000
set_option linter.unusedVariables false
set_option linter.unusedSimpArgs false
namespace Go.D
open Go.SL Go.RowKit
section
variable {P : Program} {P0 : Env0} {call : CallF} {Λs : Lay} {G : Gh} {n : Nat} {ops : Array Oper} {E0 : DE} {s0 : St} {σ0 : Sg}
theorem closGo_spec {d : Nat} (q : Nat) : ∀ (dl : List Nat) (k : Nat), hasB (closD.go d k dl) q = true → hasB d q = true ∨ ∃ j e, hasB d (k + j) = true ∧ dl[j]? = some e ∧ hasB e q = true
  | [], k, h => .inl h
  | e :: r, k, h => by
    simp only [closD.go] at h
    have step : hasB (closD.go d (k + 1) r) q = true → hasB d q = true ∨ ∃ j e', hasB d (k + j) = true ∧ (e :: r)[j]? = some e' ∧ hasB e' q = true := fun h => by
      rcases closGo_spec q r (k + 1) h with h1 | ⟨j, e', h1, h2, h3⟩
      · exact .inl h1
      · exact .inr ⟨j + 1, e', by rw [show k + (j + 1) = k + 1 + j by omega]; exact h1, by simpa using h2, h3⟩
    cases hb : hasB d k with
    | true =>
      rw [hb] at h
      simp only [cond_true, hasB_or, Bool.or_eq_true] at h
      rcases h with h | h
      · exact .inr ⟨0, e, by simpa using hb, rfl, h⟩
      · exact step h
    | false => rw [hb] at h; exact step (by simpa only [cond_false] using h)
theorem masksD_waits {i d : Nat} (h : (masksD ops.toList)[i]? = some d) {j : Nat} (hj : hasB d j = true) : waits ops.toList i j := by
  simp only [masksD, List.getElem?_map, Option.map_eq_some_iff] at h
  obtain ⟨o, ho, rfl⟩ := h
  exact ⟨o, ho, hj⟩
theorem closD_spec {i q : Nat} (h : hasB (closD (masksD ops.toList) i) q = true) : waits ops.toList i q ∨ ∃ k, waits ops.toList i k ∧ waits ops.toList k q := by
  unfold closD at h
  have key : ∀ x, hasB ((masksD ops.toList).getD i 0) x = true → waits ops.toList i x := by
    intro x hx
    rw [List.getD_eq_getElem?_getD] at hx
    cases hd : (masksD ops.toList)[i]? with
    | none => rw [hd] at hx; rw [Option.getD_none, hasB_zero] at hx; cases hx
    | some d => rw [hd] at hx; exact masksD_waits hd hx
  rcases closGo_spec q _ 0 h with h1 | ⟨j, e, h1, h2, h3⟩
  · exact .inl (key q h1)
  · exact .inr ⟨j, key j (by simpa using h1), masksD_waits h2 h3⟩
theorem chkD_spec {Λ : Tys} {h : T DObj} {cl : Nat} : ∀ {l : List Chk}, chkD Λ h cl l = true → ∀ c ∈ l, hasB cl c.i = true ∨ quietD Λ c.e h c.op = some c.v
  | [], _, c, hc => by cases hc
  | x :: r, hh, c, hc => by
    simp only [chkD, Bool.and_eq_true, Bool.or_eq_true] at hh
    rcases List.mem_cons.1 hc with rfl | hc
    · rcases hh.1 with h1 | h1
      · exact .inl h1
      · split at h1
        · rename_i u hu
          exact .inr (by rw [hu, dvEq_eq h1])
        · cases h1
    · exact chkD_spec hh.2 c hc
/-- What the plan says of its next step. -/
theorem plan_step {em i : Nat} (h : (match (masksD ops.toList)[i]? with | some d => !(hasB em i) && subB d em | none => false) = true) : ∃ o, ops[i]? = some o ∧ hasB em i = false ∧ ∀ k, waits ops.toList i k → hasB em k = true := by
  split at h
  · rename_i d hd
    simp only [Bool.and_eq_true, Bool.not_eq_true'] at h
    have hd' := hd
    simp only [masksD, List.getElem?_map, Option.map_eq_some_iff] at hd
    obtain ⟨o, ho, rfl⟩ := hd
    refine ⟨o, by rw [← Array.getElem?_toList]; exact ho, h.1, ?_⟩
    rintro k ⟨o', ho', hk⟩
    rw [ho] at ho'; injection ho' with ho'; subst ho'
    exact subB_spec h.2 hk
  · cases h
theorem isLoad_qb {Λ : Tys} {E : DE} {h : T DObj} {op : Op} (hl : isLoad op = true) : qbD Λ E h op = quietD Λ E h op := by
  cases op <;> first | rfl | (cases hl; done)
theorem hasB_full {m j : Nat} (h : j < m) : hasB (2 ^ m - 1) j = true := by rw [hasB_eq, Nat.testBit_two_pow_sub_one]; simpa using h
section
variable {em : Nat} {res : Nat → DV} {ej : Nat → DE} {rank : Nat → Nat} {rk : Nat} {E : DE} {s : St} {pend : Pend} {chk : List Chk} {σ : Sg} {listed : Array Bool} {a : Act} {w : World}
theorem Inv.final (I : Inv P0 ops n E0 s0 σ0 em res ej rank rk E s pend chk G σ listed a w) (hall : ∀ j, j < ops.size → lst listed j) : EnvR σ n E a := by
  refine ⟨I.rl.size, I.rl.defers, fun t v ht => ?_⟩
  obtain ⟨h1, h2⟩ := I.ev.env t v ht
  refine ⟨h1, ?_⟩
  rcases h2 with ⟨i, o, h3, h4, h5, rfl⟩ | ⟨h3, h4⟩
  · exact I.rl.written i o t (hall i (I.emlt i h3)) h4 h5
  · exact I.rl.kept t v (fun i o hi ho => h3 i o (I.sub i hi) ho) h4
/-- The obligations behind a loud operation. -/
theorem Inv.oblL (I : Inv P0 ops n E0 s0 σ0 em res ej rank rk E s pend chk G σ listed a w) {i : Nat} (hi : hasB em i = false) (hsz : i < listed.size) (hw : ∀ k, waits ops.toList i k → lst listed k) {s' : St} {pend' : Pend} {σ' : Sg} (hck : chkD P0.tys s'.h (closD (masksD ops.toList) i) chk = true)
    (hpe : ∀ j id ob, pend = some (j, id, ob) → hasB (closD (masksD ops.toList) i) j = false → pend' = pend ∧ (σ id = none → σ' id = none)) :
    ∀ j o', hasB em j = true → ¬ lst (listed.setIfInBounds i true) j → ops[j]? = some o' → Obl P0 ops res ej s' pend' σ' j o' := by
  intro j o' hj hn ho'
  have hn' : ¬ lst listed j := fun e => hn ((lst_set hsz).2 (.inr e))
  have hncl : hasB (closD (masksD ops.toList) i) j = false := by
    cases hb : hasB (closD (masksD ops.toList) i) j with
    | false => rfl
    | true =>
      exfalso
      rcases closD_spec hb with h | ⟨k, h1, h2⟩
      · exact hn' (hw j h)
      · exact hn' (I.rl.closed k j (hw k h1) h2)
  refine ⟨?_⟩
  rcases (I.obl j o' hj hn' ho').or with h | ⟨h1, h2 | ⟨id, ob, h3, h4, h5⟩⟩
  · exact .inl h
  · refine .inr ⟨h1, .inl ?_⟩
    cases hl : isLoad o'.op with
    | false => rw [qbD_any s'.h s.h hl]; exact h2
    | true =>
      obtain ⟨c, k1, k2, k3, k4, k5⟩ := I.chk j o' hj hn' ho' hl h1
      rcases chkD_spec hck c k1 with k6 | k6
      · rw [k2, hncl] at k6; cases k6
      · rw [isLoad_qb hl, ← k3, ← k4, ← k5]; exact k6
  · obtain ⟨k1, k2⟩ := hpe j id ob h3 hncl
    exact .inr ⟨h1, .inr ⟨id, ob, by rw [k1]; exact h3, h4, k2 h5⟩⟩
end
theorem runS_sound {steps0 : List Step} (hok : regOk ops.toList steps0 = true) (hT : TysOk P P0.tys Λs) (hX : ExtsOk P P0) (hC : CallOk P call) {Q : Exit → Act → World → Prop} {E' : DE} {s' : St} (hQ : ∀ σ' a' w', Grow s0 s' σ0 σ' → EnvR σ' n E' a' → Rel G σ' s' w' → Q .normal a' w') :
    ∀ (steps : List Step) (em : Nat) (res : Nat → DV) (ej : Nat → DE) (rank : Nat → Nat) (rk : Nat) (E : DE) (s : St) (pend : Pend) (chk : List Chk) (σ : Sg) (listed : Array Bool) (a : Act) (w : World) (fuel : Nat),
      planGo (masksD ops.toList) em steps = true → runS P0 call n ops.toList (masksD ops.toList) steps E s pend chk = some (E', s') → Inv P0 ops n E0 s0 σ0 em res ej rank rk E s pend chk G σ listed a w → cntF listed.toList ≤ fuel → wpAny P .any ops Q fuel listed a w := by
  intro steps
  induction steps with
  | nil =>
    intro em res ej rank rk E s pend chk σ listed a w fuel hpl hrun I hc
    have hlen : (masksD ops.toList).length = ops.size := by simp [masksD]
    have hem : ∀ j, j < ops.size → hasB em j = true := fun j hj => by
      simp only [planGo] at hpl
      rw [Nat.eq_of_beq_eq_true hpl, hlen]
      exact hasB_full hj
    refine inner hok hT (fun σ listed a w I hall => ?_) (fun σ listed a w I h1 h2 => ?_) (fun fuel σ listed a w I hc j o h1 h2 h3 h4 => ?_) fuel σ listed a w I hc
    · have hE := I.final hall
      have hh := I.heap
      simp only [runS] at hrun
      unfold HR at hh
      split at hrun
      · rename_i _ id ob
        simp only [Option.some.injEq, Prod.mk.injEq] at hrun
        obtain ⟨rfl, rfl⟩ := hrun
        simp only at hh
        rcases hh with ⟨_, hh⟩ | ⟨h1, _⟩
        · exact hQ σ a w ⟨I.grow.le, I.grow.low, I.grow.nx⟩ hE hh
        · exact absurd (hall _ (I.emlt _ (I.pend _ _ _ rfl).1)) h1
      · simp only [Option.some.injEq, Prod.mk.injEq] at hrun
        obtain ⟨rfl, rfl⟩ := hrun
        exact hQ σ a w I.grow hE hh
    · obtain ⟨j, hj, hn⟩ := h2
      exact absurd (h1 j (hem j hj)) hn
    · rw [hem j (Array.getElem?_eq_some_iff.1 h3).1] at h1; cases h1
  | cons st r ih =>
    intro em res ej rank rk E s pend chk σ listed a w fuel hpl hrun I hc
    cases st with
    | q i =>
      simp only [planGo, Bool.and_eq_true] at hpl
      obtain ⟨hp1, hp2⟩ := hpl
      obtain ⟨o, ho, hi, hw⟩ := plan_step hp1
      have hnl : ¬ lst listed i := fun h => by have := I.sub i h; rw [hi] at this; cases this
      have hcg : ∀ (v : DV), Rl ops n E0 (upd res i v) listed σ a := fun v => I.rl.congr fun k hk => upd_ne _ _ (fun e => hnl (e ▸ hk))
      simp only [runS, Array.getElem?_toList, ho] at hrun
      split at hrun
      · rename_i hwt
        split at hrun
        · rename_i v hq
          split at hrun
          · rename_i E1 hdp
            refine ih _ _ _ _ _ _ _ _ _ σ listed a w fuel hp2 hrun (I.next hok ho hi hw hdp (hcg v) (fun k hk => hk) (fun k hk => .inl (I.sub k hk)) I.lsize (fun j o' h1 h2 h3 => I.obl j o' h1 h2 h3) (fun _ => ⟨.inr ⟨by rw [upd_self]; exact hwt, .inl (by rw [upd_self, upd_self]; exact hq)⟩⟩) I.grow I.heap (fun c hc => ?_) (fun _ hl _ => ?_) (fun j id ob hj => .inl ⟨hj, (I.pend j id ob hj).2.1, (I.pend j id ob hj).2.2.1⟩)) hc
            · cases isLoad o.op with
              | true => exact List.mem_cons_of_mem _ hc
              | false => exact hc
            · rw [hl]
              exact ⟨_, List.mem_cons_self .., rfl, rfl, rfl, rfl⟩
          · cases hrun
        · cases hrun
      · rename_i hwt
        split at hrun
        · rename_i E1 hdp
          refine ih _ _ _ _ _ _ _ _ _ σ listed a w fuel hp2 hrun (I.next hok ho hi hw hdp (hcg _) (fun k hk => hk) (fun k hk => .inl (I.sub k hk)) I.lsize (fun j o' h1 h2 h3 => I.obl j o' h1 h2 h3) (fun _ => ⟨.inl ⟨by rw [upd_self]; exact hwt, upd_self _ _ _⟩⟩) I.grow I.heap (fun c hc => hc) (fun _ _ h2 => by rw [hwt] at h2; cases h2) (fun j id ob hj => .inl ⟨hj, (I.pend j id ob hj).2.1, (I.pend j id ob hj).2.2.1⟩)) hc
        · cases hrun
      · cases hrun
    | a i =>
      simp only [planGo, Bool.and_eq_true] at hpl
      obtain ⟨hp1, hp2⟩ := hpl
      obtain ⟨o, ho, hi, hw⟩ := plan_step hp1
      have hnl : ¬ lst listed i := fun h => by have := I.sub i h; rw [hi] at this; cases this
      have hcg : ∀ (v : DV), Rl ops n E0 (upd res i v) listed σ a := fun v => I.rl.congr fun k hk => upd_ne _ _ (fun e => hnl (e ▸ hk))
      simp only [runS, Array.getElem?_toList, ho] at hrun
      cases pend with
      | some p => simp only at hrun; cases hrun
      | none =>
      simp only at hrun
      split at hrun
      · rename_i hwt
        split at hrun
        · rename_i v ob hal
          split at hrun
          · rename_i E1 hdp
            have hR : Rel G σ s w := I.heap
            have hnone : s.h.get s.nx = none := by
              cases hg : s.h.get s.nx with
              | none => rfl
              | some q => have := hR.live_nx hg; omega
            refine ih _ _ _ _ _ _ _ _ _ σ listed a w fuel hp2 hrun (I.next hok ho hi hw hdp (hcg v) (fun k hk => hk) (fun k hk => .inl (I.sub k hk)) I.lsize (fun j o' h1 h2 h3 => ⟨?_⟩) (fun _ => ⟨.inr ⟨by rw [upd_self]; exact hwt, .inr ⟨s.nx, ob, rfl, by rw [upd_self, upd_self]; exact hal, hR.fresh _ (Nat.le_refl _)⟩⟩⟩)
              ⟨I.grow.le, I.grow.low, Nat.le_succ_of_le I.grow.nx⟩ (.inr ⟨hnl, hR.bump (Nat.le_succ _), hR.fresh _ (Nat.le_refl _)⟩) (fun c hc => hc) (fun _ hl _ => ?_) (fun j id ob' hj => ?_)) hc
            · rcases (I.obl j o' h1 h2 h3).or with h | ⟨g1, g2 | ⟨id, ob', g3, _⟩⟩
              · exact .inl h
              · exact .inr ⟨g1, .inl g2⟩
              · cases g3
            · have := alloc_loud (h := s.h) hal
              exfalso
              cases hop : o.op <;> rw [hop] at hl <;> first | (cases hl; done) | skip
              rw [hop] at hal
              cases hal
            · injection hj with hj; injection hj with hj1 hj2; injection hj2 with hj2 hj3
              subst hj1; subst hj2; subst hj3
              exact .inr ⟨rfl, Nat.lt_succ_self _, hnone, I.grow.nx, hwt, hal⟩
          · cases hrun
        · cases hrun
      · rename_i hwt
        split at hrun
        · rename_i E1 hdp
          refine ih _ _ _ _ _ _ _ _ _ σ listed a w fuel hp2 hrun (I.next hok ho hi hw hdp (hcg _) (fun k hk => hk) (fun k hk => .inl (I.sub k hk)) I.lsize (fun j o' h1 h2 h3 => I.obl j o' h1 h2 h3) (fun _ => ⟨.inl ⟨by rw [upd_self]; exact hwt, upd_self _ _ _⟩⟩) I.grow I.heap (fun c hc => hc) (fun _ _ h2 => by rw [hwt] at h2; cases h2) (fun j id ob hj => by cases hj)) hc
        · cases hrun
      · cases hrun
    | l i =>
      simp only [planGo, Bool.and_eq_true] at hpl
      obtain ⟨⟨hp1, hp3⟩, hp2⟩ := hpl
      obtain ⟨o, ho, hi, hw⟩ := plan_step hp1
      have hilt : i < ops.size := (Array.getElem?_eq_some_iff.1 ho).1
      have hnot : ∀ {σ : Sg} {listed : Array Bool} {a : Act} {w : World}, Inv P0 ops n E0 s0 σ0 em res ej rank rk E s pend chk G σ listed a w → ¬ lst listed i := fun I h => by have := I.sub i h; rw [hi] at this; cases this
      refine inner hok hT (fun σ listed a w I hall => absurd (hall i hilt) (hnot I)) (fun σ listed a w I h1 h2 => ?_) (fun fuel σ listed a w I hc j o' h1 h2 h3 h4 => ?_) fuel σ listed a w I hc
      · refine ⟨i, mem_ready.2 ⟨?_, o, ho, fun e he hb => ?_⟩⟩
        · have h3 := hnot I
          unfold lst at h3
          have : i < listed.size := by rw [I.lsize]; exact hilt
          simp [Array.getD_eq_getD_getElem?, this] at h3 ⊢
          exact h3
        · exact h1 e.on (hw e.on ⟨o, by rw [Array.getElem?_toList]; exact ho, (maskD_spec _ _).2 ⟨e, by simpa using he, hb, rfl⟩⟩)
      · have hji : j = i := by
          have hmem := readyD_mem em (masksD ops.toList) 0 j (maskD o'.after.toList) (masksD_get (by rw [Array.getElem?_toList]; exact h3)) (by simpa using h1) (fun k hk => I.sub k (h4 k ⟨o', by rw [Array.getElem?_toList]; exact h3, hk⟩))
          split at hp3
          · rename_i j' hj'
            rw [hj'] at hmem
            simp only [Nat.zero_add, List.mem_singleton] at hmem
            rw [hmem]; exact (Nat.eq_of_beq_eq_true hp3).symm
          · cases hp3
        subst hji
        rw [ho] at h3; injection h3 with h3; subst h3
        obtain ⟨hnl, hsz⟩ := lst_unlisted h2
        have hE := (I.ev.jenv hok ho hi hw).envR I.rl hnl h4
        have hsub : ∀ k, lst (listed.setIfInBounds j true) k → hasB em k = true ∨ k = j := fun k hk => ((lst_set hsz).1 hk).elim .inr fun h => .inl (I.sub k h)
        have hls : (listed.setIfInBounds j true).size = ops.size := by simp [I.lsize]
        have hcnt : cntF (listed.setIfInBounds j true).toList ≤ fuel := by
          have : cntF (listed.setIfInBounds j true).toList + 1 = cntF listed.toList := by
            rw [Array.toList_setIfInBounds]
            refine cntF_set _ j ?_
            rw [Array.getElem?_toList]
            simp [Array.getD_eq_getD_getElem?, hsz] at h2 ⊢
            exact h2
          omega
        have hcg : ∀ (v : DV), Rl ops n E0 (upd res j v) listed σ a := fun v => I.rl.congr fun k hk => upd_ne _ _ (fun e => hnl (e ▸ hk))
        have hself : lst (listed.setIfInBounds j true) j := (lst_set hsz).2 (.inl rfl)
        simp only [runS, Array.getElem?_toList, ho] at hrun
        unfold wpOp
        simp only [ho]
        split at hrun
        · rename_i hwt
          split at hrun
          · rename_i E1 hdp
            rw [if_neg (by rw [wantsD_spec hE hwt]; simp)]
            have hV : val σ (upd res j (.tuple []) j) = some (.tuple #[]) := by rw [upd_self]; simp [val, vals]
            refine ih _ _ _ _ _ _ _ _ _ σ _ _ w fuel hp2 hrun (I.next hok ho hi hw hdp (Rl.step hok (hcg _) hnl hsz ho h4 (fun d hd => by rw [hd] at hdp; exact dput_lt hdp) hV) (fun k hk => (lst_set hsz).2 (.inr hk)) hsub hls (fun k o' g1 g2 g3 => I.obl k o' g1 (fun e => g2 ((lst_set hsz).2 (.inr e))) g3) (fun e => absurd hself e) I.grow ?_ (fun c hc => hc) (fun _ _ h2 => by rw [hwt] at h2; cases h2)
              (fun k id ob hk => .inl ⟨hk, (I.pend k id ob hk).2.1, (I.pend k id ob hk).2.2.1⟩)) hcnt
            cases pend with
            | none => exact I.heap
            | some p =>
              obtain ⟨k, id, ob⟩ := p
              have hh := I.heap
              unfold HR at hh ⊢
              simp only at hh ⊢
              have hk := (I.pend k id ob rfl).1
              have hkj : k ≠ j := fun e => by subst e; rw [hi] at hk; cases hk
              rcases hh with ⟨g1, g2⟩ | ⟨g1, g2⟩
              · exact .inl ⟨(lst_set hsz).2 (.inr g1), g2⟩
              · exact .inr ⟨fun g3 => ((lst_set hsz).1 g3).elim hkj g1, g2⟩
          · cases hrun
        · rename_i hwt
          rw [if_pos (wantsD_spec hE hwt)]
          refine .inl ?_
          split at hrun
          · rename_i v s1 hop
            split at hrun
            · rename_i E1 hdp
              cases hck : chkD P0.tys s1.h (closD (masksD ops.toList) j) chk with
              | false => rw [hck] at hrun; cases hrun
              | true =>
              rw [hck] at hrun
              simp only [cond_true] at hrun
              have hdn : ∀ d, o.dst = some d → d < n := fun d hd => by rw [hd] at hdp; exact dput_lt hdp
              cases pend with
              | none =>
                have hR : Rel G σ s w := I.heap
                refine oper_sound hT hX hC hE hR hop fun σ1 V w1 g1 g2 g3 => ?_
                have hV : val σ1 (upd res j v j) = some V := by rw [upd_self]; exact g2
                exact ih _ _ _ _ _ _ _ _ _ σ1 _ _ w1 fuel hp2 hrun (I.next hok ho hi hw hdp (Rl.step hok ((hcg v).mono g1.le) hnl hsz ho h4 hdn hV) (fun k hk => (lst_set hsz).2 (.inr hk)) hsub hls (I.oblL hi hsz h4 hck (fun k id ob hk => by cases hk)) (fun e => absurd hself e) (I.grow.trans g1) g3 (fun c hc => hc) (fun h1 => absurd hself h1) (fun k id ob hk => by cases hk)) hcnt
              | some p =>
                obtain ⟨k, id, ob⟩ := p
                obtain ⟨hk, hid, hidn, hid0, _⟩ := I.pend k id ob rfl
                have hh := I.heap
                unfold HR at hh
                simp only at hh hop hrun
                cases hcl : hasB (closD (masksD ops.toList) j) k with
                | true =>
                  rw [hcl] at hop hrun
                  simp only [cond_true] at hop hrun
                  have hkl : lst listed k := by
                    rcases closD_spec hcl with h | ⟨q, h1, h2⟩
                    · exact h4 k h
                    · exact I.rl.closed q k (h4 q h1) h2
                  rcases hh with ⟨_, hR⟩ | ⟨g1, _⟩
                  · refine oper_sound hT hX hC hE hR hop fun σ1 V w1 g1 g2 g3 => ?_
                    have g1' : Grow s s1 σ σ1 := ⟨g1.le, g1.low, g1.nx⟩
                    have hV : val σ1 (upd res j v j) = some V := by rw [upd_self]; exact g2
                    exact ih _ _ _ _ _ _ _ _ _ σ1 _ _ w1 fuel hp2 hrun (I.next hok ho hi hw hdp (Rl.step hok ((hcg v).mono g1.le) hnl hsz ho h4 hdn hV) (fun k hk => (lst_set hsz).2 (.inr hk)) hsub hls (I.oblL hi hsz h4 hck (fun k' id' ob' hk' hn => by
                      injection hk' with hk'; injection hk' with hk' _; subst hk'; rw [hcl] at hn; cases hn)) (fun e => absurd hself e) (I.grow.trans g1') g3 (fun c hc => hc) (fun h1 => absurd hself h1) (fun k id ob hk => by cases hk)) hcnt
                  · exact absurd hkl g1
                | false =>
                  rw [hcl] at hop hrun
                  simp only [cond_false] at hop hrun
                  rcases hh with ⟨hkl, hR⟩ | ⟨hkl, hR, hσ⟩
                  · obtain ⟨L, O, f1, f2, f3, f4, f5⟩ := Rel.frameIn (hp := s.h) (id := id) (nx := s.nx) hR hidn
                    refine oper_sound hT hX hC hE f5 hop fun σ1 V w1 g1 g2 g3 => ?_
                    obtain ⟨f6, f7⟩ := Rel.frameOut (h' := s1.h) (id := id) (nx' := s1.nx) (ob := ob) g3 g1.le f1 f2 f3 f4
                    have hV : val σ1 (upd res j v j) = some V := by rw [upd_self]; exact g2
                    exact ih _ _ _ _ _ _ _ _ _ σ1 _ _ w1 fuel hp2 hrun (I.next hok ho hi hw hdp (Rl.step hok ((hcg v).mono g1.le) hnl hsz ho h4 hdn hV) (fun k hk => (lst_set hsz).2 (.inr hk)) hsub hls (I.oblL hi hsz h4 hck (fun k' id' ob' hk' hn => ⟨rfl, fun h0 => by
                      injection hk' with hk'; injection hk' with hk1 hk2; injection hk2 with hk2 _; subst hk2
                      rw [g1.low id hid]; exact h0⟩)) (fun e => absurd hself e) (I.grow.trans g1) (.inl ⟨(lst_set hsz).2 (.inr hkl), f7⟩) (fun c hc => hc) (fun h1 => absurd hself h1) (fun k' id' ob' hk' => .inl ⟨hk', by
                      injection hk' with hk'; injection hk' with hk1 hk2; injection hk2 with hk2 _; subst hk2
                      exact ⟨Nat.lt_of_lt_of_le hid g1.nx, f6⟩⟩)) hcnt
                  · refine oper_sound hT hX hC hE hR hop fun σ1 V w1 g1 g2 g3 => ?_
                    have hσ1 : σ1 id = none := by rw [g1.low id hid]; exact hσ
                    have hn1 : s1.h.get id = none := by
                      cases hg : s1.h.get id with
                      | none => rfl
                      | some q => obtain ⟨L, h1, _⟩ := g3.live id q hg; rw [hσ1] at h1; cases h1
                    have hkj : k ≠ j := fun e => by subst e; rw [hi] at hk; cases hk
                    have hV : val σ1 (upd res j v j) = some V := by rw [upd_self]; exact g2
                    exact ih _ _ _ _ _ _ _ _ _ σ1 _ _ w1 fuel hp2 hrun (I.next hok ho hi hw hdp (Rl.step hok ((hcg v).mono g1.le) hnl hsz ho h4 hdn hV) (fun k hk => (lst_set hsz).2 (.inr hk)) hsub hls (I.oblL hi hsz h4 hck (fun k' id' ob' hk' hn => ⟨rfl, fun h0 => by
                      injection hk' with hk'; injection hk' with hk1 hk2; injection hk2 with hk2 _; subst hk2
                      exact hσ1⟩)) (fun e => absurd hself e) (I.grow.trans g1) (.inr ⟨fun g => ((lst_set hsz).1 g).elim hkj hkl, g3, hσ1⟩) (fun c hc => hc) (fun h1 => absurd hself h1) (fun k' id' ob' hk' => .inl ⟨hk', by
                      injection hk' with hk'; injection hk' with hk1 hk2; injection hk2 with hk2 _; subst hk2
                      exact ⟨Nat.lt_of_lt_of_le hid g1.nx, hn1⟩⟩)) hcnt
            · cases hrun
          · cases hrun
        · cases hrun
end
end Go.D
