/- Regions that draw their order: the proof. -/
import Derived.Test.YtjbcafbeafhdpaaGreatDoorD13
set_option maxRecDepth 10000
set_option linter.unusedVariables false
set_option linter.unusedSimpArgs false
namespace Go.D
open Go.SL Go.RowKit
section
variable {P : Program} {P0 : Env0} {call : CallF} {Λs : Lay} {G : Gh} {n : Nat} {ops : Array Oper} {E0 : DE} {s0 : St} {σ0 : Sg}
theorem Jenv.congr {res res' : Nat → DV} {j : Nat} {e : DE} (h : Jenv ops n E0 res j e) (hr : ∀ i, waits ops.toList j i → res' i = res i) : Jenv ops n E0 res' j e := ⟨fun t v ht => by
  obtain ⟨h1, h2⟩ := h.at_ t v ht
  refine ⟨h1, ?_⟩
  rcases h2 with ⟨i, o, h3, h4, h5, h6, h7⟩ | h2
  · exact .inl ⟨i, o, h3, h4, h5, h6, (hr i h3).trans h7⟩
  · exact .inr h2⟩
theorem Rl.congr {res res' : Nat → DV} {listed : Array Bool} {σ : Sg} {a : Act} (r : Rl ops n E0 res listed σ a) (hr : ∀ i, lst listed i → res' i = res i) : Rl ops n E0 res' listed σ a :=
  ⟨r.size, r.defers, fun i o t h1 h2 h3 => by rw [hr i h1]; exact r.written i o t h1 h2 h3, r.kept, r.closed⟩
def HR (G : Gh) (s : St) (pend : Pend) (listed : Array Bool) (σ : Sg) (w : World) : Prop := match pend with
  | none => Rel G σ s w
  | some (j, id, ob) => (lst listed j ∧ Rel G σ ⟨s.h.set id (some ob), s.nx⟩ w) ∨ (¬ lst listed j ∧ Rel G σ s w ∧ σ id = none)
structure Obl (P0 : Env0) (ops : Array Oper) (res : Nat → DV) (ej : Nat → DE) (s : St) (pend : Pend) (σ : Sg) (j : Nat) (o : Oper) : Prop where
  or : (wantsD ops.toList (ej j) o.guard = some false ∧ res j = .tuple []) ∨ (wantsD ops.toList (ej j) o.guard = some true ∧
    (qbD P0.tys (ej j) s.h o.op = some (res j) ∨ ∃ id ob, pend = some (j, id, ob) ∧ allocD P0.tys (ej j) id o.op = some (res j, ob) ∧ σ id = none))
/-- The evaluation and the real run, side by side. -/
structure Inv (P0 : Env0) (ops : Array Oper) (n : Nat) (E0 : DE) (s0 : St) (σ0 : Sg) (em : Nat) (res : Nat → DV) (ej : Nat → DE) (rank : Nat → Nat) (rk : Nat) (E : DE) (s : St) (pend : Pend) (chk : List Chk) (G : Gh) (σ : Sg) (listed : Array Bool) (a : Act) (w : World) : Prop where
  ev : Ev ops n E0 em res rank rk E
  rl : Rl ops n E0 res listed σ a
  sub : ∀ i, lst listed i → hasB em i = true
  lsize : listed.size = ops.size
  emlt : ∀ i, hasB em i = true → i < ops.size
  dn : ∀ j o d, hasB em j = true → ops[j]? = some o → o.dst = some d → d < n
  jen : ∀ j, hasB em j = true → Jenv ops n E0 res j (ej j)
  obl : ∀ j o, hasB em j = true → ¬ lst listed j → ops[j]? = some o → Obl P0 ops res ej s pend σ j o
  grow : Grow s0 s σ0 σ
  heap : HR G s pend listed σ w
  chk : ∀ j o, hasB em j = true → ¬ lst listed j → ops[j]? = some o → isLoad o.op = true → wantsD ops.toList (ej j) o.guard = some true → ∃ c ∈ chk, c.i = j ∧ c.e = ej j ∧ c.op = o.op ∧ c.v = res j
  pend : ∀ j id ob, pend = some (j, id, ob) → hasB em j = true ∧ id < s.nx ∧ s.h.get id = none ∧ s0.nx ≤ id ∧ ∃ o, ops[j]? = some o ∧ wantsD ops.toList (ej j) o.guard = some true ∧ allocD P0.tys (ej j) id o.op = some (res j, ob)
theorem alloc_loud {Λ : Tys} {E : DE} {h : T DObj} {nx : Nat} {op : Op} {r : DV × DObj} (ha : allocD Λ E nx op = some r) : qbD Λ E h op = none := by
  cases op <;> first | (cases ha; done) | rfl
theorem dput_lt {E E' : DE} {d : Nat} {v : DV} (h : dput n E (some d) v = some E') : d < n := by
  simp only [dput] at h
  cases hb : Nat.blt d n with
  | false => rw [hb] at h; cases h
  | true => simpa [Nat.blt_eq] using hb
section
variable {em : Nat} {res : Nat → DV} {ej : Nat → DE} {rank : Nat → Nat} {rk : Nat} {E : DE} {s : St} {pend : Pend} {chk : List Chk} {σ : Sg} {listed : Array Bool} {a : Act} {w : World}
theorem waits_ready {j : Nat} {o : Oper} (ho : ops[j]? = some o) (h : ∀ e ∈ o.after, Region.binds .any e = true → listed.getD e.on false = true) : ∀ i, waits ops.toList j i → lst listed i := by
  rintro i ⟨o', ho', hi⟩
  rw [Array.getElem?_toList, ho] at ho'
  injection ho' with ho'
  subst ho'
  obtain ⟨e, he, hb, rfl⟩ := (maskD_spec _ _).1 hi
  exact h e (by simpa using he) hb
/-- The heap under which quiet operations are valued. -/
theorem HR.some (h : HR G s pend listed σ w) (hp : ∀ j id ob, pend = some (j, id, ob) → s.h.get id = none) : ∃ G', Rel G' σ s w := by
  unfold HR at h
  split at h
  · exact ⟨G, h⟩
  · rename_i j id ob
    rcases h with ⟨_, h⟩ | ⟨_, h, _⟩
    · obtain ⟨L, O, _, _, _, _, h2⟩ := Rel.frameIn (hp := s.h) (id := id) (nx := s.nx) h (hp j id ob rfl)
      exact ⟨_, h2⟩
    · exact ⟨G, h⟩
theorem lst_unlisted {j : Nat} (h : listed.getD j true = false) : ¬ lst listed j ∧ j < listed.size := by
  unfold lst
  rcases Nat.lt_or_ge j listed.size with h1 | h1
  · simp [Array.getD_eq_getD_getElem?, h1] at h ⊢
    exact h
  · simp [Array.getD_eq_getD_getElem?, Array.getElem?_eq_none h1] at h
theorem Inv.lift {listed' : Array Bool} {σ' : Sg} {a' : Act} {w' : World} (I : Inv P0 ops n E0 s0 σ0 em res ej rank rk E s pend chk G σ listed a w) (h0 : ∀ j, lst listed j → lst listed' j) (h1 : Rl ops n E0 res listed' σ' a') (h2 : ∀ i, lst listed' i → hasB em i = true) (h3 : listed'.size = ops.size)
    (h4 : ∀ j o, hasB em j = true → ¬ lst listed' j → ops[j]? = some o → Obl P0 ops res ej s pend σ' j o) (h5 : Grow s0 s σ0 σ') (h6 : HR G s pend listed' σ' w') : Inv P0 ops n E0 s0 σ0 em res ej rank rk E s pend chk G σ' listed' a' w' :=
  ⟨I.ev, h1, h2, h3, I.emlt, I.dn, I.jen, h4, h5, h6, fun j o g1 g2 => I.chk j o g1 (fun g3 => g2 (h0 j g3)), I.pend⟩
/-- What the evaluation has done the real run does. -/
theorem exec_ev {steps : List Step} (hok : regOk ops.toList steps = true) (hT : TysOk P P0.tys Λs) (I : Inv P0 ops n E0 s0 σ0 em res ej rank rk E s pend chk G σ listed a w) {j : Nat} {o : Oper} (hj : hasB em j = true) (hu : listed.getD j true = false) (ho : ops[j]? = some o)
    (hw : ∀ i, waits ops.toList j i → lst listed i) {Q : Exit → Act → World → Prop} {K : Act → World → Prop}
    (hK : ∀ σ' a' w', Inv P0 ops n E0 s0 σ0 em res ej rank rk E s pend chk G σ' (listed.setIfInBounds j true) a' w' → K a' w') : wpOp P ops Q j K a w := by
  obtain ⟨hnl, hsz⟩ := lst_unlisted hu
  have hE := (I.jen j hj).envR I.rl hnl hw
  have hdn : ∀ d, o.dst = some d → d < n := fun d hd => I.dn j o d hj ho hd
  have hsub : ∀ i, lst (listed.setIfInBounds j true) i → hasB em i = true := fun i hi => by
    rcases (lst_set hsz).1 hi with rfl | hi
    · exact hj
    · exact I.sub i hi
  have hls : (listed.setIfInBounds j true).size = ops.size := by simp [I.lsize]
  have hobl : ∀ (σ' : Sg), ((∃ id ob, pend = some (j, id, ob)) ∨ σ' = σ) → ∀ i o', hasB em i = true → ¬ lst (listed.setIfInBounds j true) i → ops[i]? = some o' → Obl P0 ops res ej s pend σ' i o' := by
    intro σ' hσ i o' hi hn ho'
    have hne : i ≠ j := fun e => hn ((lst_set hsz).2 (.inl e))
    have hn' : ¬ lst listed i := fun e => hn ((lst_set hsz).2 (.inr e))
    refine ⟨?_⟩
    rcases (I.obl i o' hi hn' ho').or with h | ⟨h1, h2 | ⟨id, ob, h3, h4, h5⟩⟩
    · exact .inl h
    · exact .inr ⟨h1, .inl h2⟩
    · rcases hσ with ⟨id', ob', h6⟩ | rfl
      · rw [h3] at h6; injection h6 with h6; injection h6 with h6 _; exact absurd h6 hne
      · exact .inr ⟨h1, .inr ⟨id, ob, h3, h4, h5⟩⟩
  have hheap : ∀ (hne : ∀ id ob, pend ≠ some (j, id, ob)), HR G s pend (listed.setIfInBounds j true) σ w := by
    intro hne
    have h := I.heap
    unfold HR at h ⊢
    split
    · exact h
    · rename_i i id ob
      have hij : i ≠ j := fun e => hne id ob (by rw [e])
      rcases h with ⟨h1, h2⟩ | ⟨h1, h2⟩
      · exact .inl ⟨(lst_set hsz).2 (.inr h1), h2⟩
      · refine .inr ⟨fun h3 => ?_, h2⟩
        rcases (lst_set hsz).1 h3 with h4 | h4
        · exact hij h4
        · exact h1 h4
  unfold wpOp
  simp only [ho]
  rcases (I.obl j o hj hnl ho).or with ⟨h1, h2⟩ | ⟨h1, h2⟩
  · rw [if_neg (by rw [wantsD_spec hE h1]; simp)]
    have hV : val σ (res j) = some (.tuple #[]) := by rw [h2]; simp [val, vals]
    refine hK σ _ w (I.lift (fun k hk => (lst_set hsz).2 (.inr hk)) (Rl.step hok I.rl hnl hsz ho hw hdn hV) hsub hls (hobl σ (.inr rfl)) I.grow ?_)
    refine hheap fun id ob hp => ?_
    obtain ⟨_, _, _, _, o', ho', hw', _⟩ := I.pend j id ob hp
    rw [ho] at ho'; injection ho' with ho'; subst ho'
    rw [h1] at hw'; cases hw'
  · rw [if_pos (wantsD_spec hE h1)]
    refine .inl ?_
    rcases h2 with h2 | ⟨id, ob, h3, h4, h5⟩
    · obtain ⟨G', hG'⟩ := I.heap.some fun i id ob hp => (I.pend i id ob hp).2.2.1
      obtain ⟨V, hV, hrun⟩ := qb_sound (P := P) hT hE hG' h2
      refine wp_of_value hrun (hK σ _ w (I.lift (fun k hk => (lst_set hsz).2 (.inr hk)) (Rl.step hok I.rl hnl hsz ho hw hdn hV) hsub hls (hobl σ (.inr rfl)) I.grow ?_))
      refine hheap fun id ob hp => ?_
      obtain ⟨_, _, _, _, o', ho', _, hal⟩ := I.pend j id ob hp
      rw [ho] at ho'; injection ho' with ho'; subst ho'
      rw [alloc_loud hal] at h2; cases h2
    · obtain ⟨_, hid1, hid2, hid3, _⟩ := I.pend j id ob h3
      have hheap0 := I.heap
      unfold HR at hheap0
      rw [h3] at hheap0
      simp only at hheap0
      rcases hheap0 with ⟨h6, _⟩ | ⟨_, hR, _⟩
      · exact absurd h6 hnl
      · obtain ⟨t, cs, Cs, V, rfl, k2, k3, k4⟩ := alloc_sound (P := P) (σ := σ) (w := w) hT hE h4
        obtain ⟨g1, g2⟩ := hR.allocAt (t := t) k2 hid2 h5 hid1
        have hV : val (σ.add id ⟨w.heap.size, 0, 0⟩) (res j) = some V := k3 _ _ (Sg.add_self _ _ _) rfl rfl
        refine wp_of_value k4 (hK _ _ _ (I.lift (fun k hk => (lst_set hsz).2 (.inr hk)) (Rl.step hok (I.rl.mono g1) hnl hsz ho hw hdn hV) hsub hls (hobl _ (.inl ⟨id, _, h3⟩)) ⟨Sg.le_trans I.grow.le g1, fun i hi => ?_, I.grow.nx⟩ ?_))
        · have : i ≠ id := by omega
          simp only [Sg.add, if_neg this]
          exact I.grow.low i hi
        · unfold HR
          rw [h3]
          exact .inl ⟨(lst_set hsz).2 (.inl rfl), g2⟩
end
end
end Go.D
