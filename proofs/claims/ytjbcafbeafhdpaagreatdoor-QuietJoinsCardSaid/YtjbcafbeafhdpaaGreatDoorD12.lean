/- Blocks set aside and taken back. -/
import Derived.Test.YtjbcafbeafhdpaaGreatDoorD11
set_option maxRecDepth 10000
set_option linter.unusedVariables false
set_option linter.unusedSimpArgs false
namespace Go.D
open Go.SL Go.RowKit
section
variable {P : Program} {Λ : Tys} {Λs : Lay} {σ σ' : Sg} {G : Gh} {n : Nat} {E : DE} {s : St} {a : Act} {w w' : World}
def Gh.put (G : Gh) (b : Nat) (O : Obj) : Gh := { G with objs := fun c => if c = b then some O else G.objs c }
theorem Rel.live_nx (h : Rel G σ s w) {id : Nat} {o : DObj} (ho : s.h.get id = some o) : id < s.nx := by
  obtain ⟨L, h1, _⟩ := h.live id o ho
  rcases Nat.lt_or_ge id s.nx with h2 | h2
  · exact h2
  · rw [h.fresh id h2] at h1; cases h1
theorem Rel.frameIn {hp : T DObj} {id nx : Nat} {ob : DObj} (h : Rel G σ ⟨hp.set id (some ob), nx⟩ w) (hid : hp.get id = none) :
    ∃ L O, σ id = some L ∧ G.objs L.b = none ∧ w.heap[L.b]? = some O ∧ Holds σ L w ob ∧ Rel (Gh.put G L.b O) σ ⟨hp, nx⟩ w := by
  have hget : (hp.set id (some ob)).get id = some ob := by rw [T.get_set]; simp
  obtain ⟨L, h1, h2, h3, h4⟩ := h.live id ob hget
  have hsub : ∀ i o, hp.get i = some o → i ≠ id ∧ (hp.set id (some ob)).get i = some o := fun i o hi => by
    have hne : i ≠ id := fun e => by subst e; rw [hid] at hi; cases hi
    exact ⟨hne, by rw [T.get_set, if_neg hne]; exact hi⟩
  refine ⟨L, w.heap[L.b], h1, h2, Array.getElem?_eq_getElem h3, h4, ⟨fun b o hb => ?_, h.os, h.tape, h.output, fun i o hi => ?_, fun i i' o o' K K' hi hi' => h.inj i i' o o' K K' (hsub i o hi).2 (hsub i' o' hi').2, h.fresh⟩⟩
  · simp only [Gh.put] at hb
    by_cases e : b = L.b
    · subst e
      rw [if_pos rfl] at hb; injection hb with hb; subst hb
      exact Array.getElem?_eq_getElem h3
    · rw [if_neg e] at hb; exact h.ghost b o hb
  · obtain ⟨hne, hi'⟩ := hsub i o hi
    obtain ⟨K, k1, k2, k3, k4⟩ := h.live i o hi'
    refine ⟨K, k1, ?_, k3, k4⟩
    simp only [Gh.put]
    rw [if_neg (fun e => hne (h.inj i id o ob K L hi' hget k1 h1 e))]
    exact k2
theorem Rel.frameOut {h' : T DObj} {id nx' : Nat} {ob : DObj} {L : Loc} {O : Obj} (h : Rel (Gh.put G L.b O) σ' ⟨h', nx'⟩ w') (hle : σ.le σ') (hL : σ id = some L) (hG : G.objs L.b = none) (hO : w.heap[L.b]? = some O) (hh : Holds σ L w ob) :
    h'.get id = none ∧ Rel G σ' ⟨h'.set id (some ob), nx'⟩ w' := by
  have hput : (Gh.put G L.b O).objs L.b = some O := by simp [Gh.put]
  have hnone : ∀ i o K, h'.get i = some o → σ' i = some K → K.b ≠ L.b := fun i o K hi hK e => by
    obtain ⟨K2, k1, k2, _⟩ := h.live i o hi
    rw [hK] at k1; injection k1 with k1; subst k1
    rw [e, hput] at k2; cases k2
  have hL' := hle id L hL
  have hid : h'.get id = none := by
    cases hg : h'.get id with
    | none => rfl
    | some o => exact absurd rfl (hnone id o L hg hL')
  have hO' := h.ghost L.b O hput
  refine ⟨hid, ⟨fun b o hb => h.ghost b o (by
      simp only [Gh.put]
      rw [if_neg (fun e => by subst e; rw [hG] at hb; cases hb)]; exact hb), h.os, h.tape, h.output, fun i o hi => ?_, fun i i' o o' K K' hi hi' hK hK' e => ?_, h.fresh⟩⟩
  · simp only [T.get_set] at hi
    by_cases e : i = id
    · subst e
      rw [if_pos rfl] at hi; injection hi with hi; subst hi
      exact ⟨L, hL', hG, (Array.getElem?_eq_some_iff.1 hO').1, hh.of hle (hO'.trans hO.symm)⟩
    · rw [if_neg e] at hi
      obtain ⟨K, k1, k2, k3, k4⟩ := h.live i o hi
      refine ⟨K, k1, ?_, k3, k4⟩
      simp only [Gh.put] at k2
      rw [if_neg (hnone i o K hi k1)] at k2
      exact k2
  · simp only [T.get_set] at hi hi'
    by_cases e1 : i = id <;> by_cases e2 : i' = id
    · rw [e1, e2]
    · subst e1
      rw [hL'] at hK; injection hK with hK; subst hK
      rw [if_neg e2] at hi'
      exact absurd e.symm (hnone i' o' K' hi' hK')
    · subst e2
      rw [hL'] at hK'; injection hK' with hK'; subst hK'
      rw [if_neg e1] at hi
      exact absurd e (hnone i o K hi hK)
    · rw [if_neg e1] at hi
      rw [if_neg e2] at hi'
      exact h.inj i i' o o' K K' hi hi' hK hK' e
/-- Numbers kept free. -/
theorem Rel.bump (h : Rel G σ s w) {nx : Nat} (hn : s.nx ≤ nx) : Rel G σ ⟨s.h, nx⟩ w := ⟨h.ghost, h.os, h.tape, h.output, h.live, h.inj, fun id hid => h.fresh id (Nat.le_trans hn hid)⟩
/-- A new block under a number that was kept free. -/
theorem Rel.allocAt (h : Rel G σ s w) {id t : Nat} {cs : List DV} {Cs : List Value} (hc : vals σ cs = some Cs) (hid : s.h.get id = none) (hσ : σ id = none) (hlt : id < s.nx) :
    σ.le (σ.add id ⟨w.heap.size, 0, 0⟩) ∧ Rel G (σ.add id ⟨w.heap.size, 0, 0⟩) ⟨s.h.set id (some (.cells t 0 cs)), s.nx⟩ (w.alloc (.cells Cs.toArray t)) := by
  have hle := Sg.le_add ⟨w.heap.size, 0, 0⟩ hσ
  have hold : ∀ b, b < w.heap.size → (w.alloc (.cells Cs.toArray t)).heap[b]? = w.heap[b]? := fun b hb => by show (w.heap.push _)[b]? = _; rw [Array.getElem?_push_lt hb, Array.getElem?_eq_getElem hb]
  have hσ' : ∀ i, i ≠ id → (σ.add id ⟨w.heap.size, 0, 0⟩) i = σ i := fun i hi => by simp [Sg.add, hi]
  refine ⟨hle, ⟨fun b o hb => ?_, h.os, h.tape, h.output, fun i o ho => ?_, fun i i' o o' L L' ho ho' hL hL' e => ?_, fun i hi => ?_⟩⟩
  · have := h.ghost b o hb
    rw [hold b (Array.getElem?_eq_some_iff.1 this).1]; exact this
  · simp only [T.get_set] at ho
    by_cases e : i = id
    · subst e
      simp only [if_true, Option.some.injEq] at ho
      subst ho
      refine ⟨_, Sg.add_self _ _ _, ?_, by simp, ?_⟩
      · cases hg : G.objs w.heap.size with
        | none => rfl
        | some o => have := h.ghost _ _ hg; have := (Array.getElem?_eq_some_iff.1 this).1; omega
      · refine ⟨Cs.toArray, heap_alloc_new w _, by simp [vals_length hc], by simp, fun _ => ⟨rfl, by simp [vals_length hc]⟩, fun j v hj => ?_⟩
        obtain ⟨V, k1, k2⟩ := vals_get j hc hj
        exact ⟨V, val_mono hle k1, by simpa using k2⟩
    · rw [if_neg e] at ho
      obtain ⟨L, h1, h2, h3, h4⟩ := h.live i o ho
      exact ⟨L, by rw [hσ' i e]; exact h1, h2, by simp; omega, h4.of hle (hold _ h3)⟩
  · simp only [T.get_set] at ho ho'
    by_cases e1 : i = id <;> by_cases e2 : i' = id
    · rw [e1, e2]
    · rw [if_neg e2] at ho'
      rw [hσ' i' e2] at hL'
      obtain ⟨L2, g1, _, g3, _⟩ := h.live i' o' ho'
      rw [g1] at hL'; injection hL' with hL'; subst hL'
      subst e1
      rw [Sg.add_self] at hL; injection hL with hL; subst hL
      simp only at e
      omega
    · rw [if_neg e1] at ho
      rw [hσ' i e1] at hL
      obtain ⟨L2, g1, _, g3, _⟩ := h.live i o ho
      rw [g1] at hL; injection hL with hL; subst hL
      subst e2
      rw [Sg.add_self] at hL'; injection hL' with hL'; subst hL'
      simp only at e
      omega
    · rw [if_neg e1] at ho
      rw [if_neg e2] at ho'
      rw [hσ' i e1] at hL
      rw [hσ' i' e2] at hL'
      exact h.inj i i' o o' L L' ho ho' hL hL' e
  · have : s.nx ≤ i := hi
    rw [hσ' i (by omega)]
    exact h.fresh i hi
theorem onlyD_get (E : DE) : ∀ (ts : List Nat) (t : Nat) (v : DV), (onlyD E ts).get t = some v → t ∈ ts ∧ E.get t = some v
  | [], t, v, h => by simp [onlyD, T.get] at h
  | x :: r, t, v, h => by
    simp only [onlyD] at h
    split at h
    · rename_i u hu
      rw [T.get_set] at h
      by_cases e : t = x
      · subst e
        rw [if_pos rfl] at h
        exact ⟨List.mem_cons_self .., by rw [hu]; exact h⟩
      · rw [if_neg e] at h
        have := onlyD_get E r t v h
        exact ⟨List.mem_cons_of_mem _ this.1, this.2⟩
    · have := onlyD_get E r t v h
      exact ⟨List.mem_cons_of_mem _ this.1, this.2⟩
/-- Quiet operations but loads do not look at memory. -/
theorem qbD_any (h h' : T DObj) {op : Op} (hl : isLoad op = false) : qbD Λ E h op = qbD Λ E h' op := by
  cases op <;> first | rfl | (cases hl; done) | (rename_i m; cases m <;> rfl)
theorem qb_sound (hT : TysOk P Λ Λs) (hE : EnvR σ n E a) (hR : Rel G σ s w) {o : Oper} {v : DV} (h : qbD Λ E s.h o.op = some v) : ∃ V, val σ v = some V ∧ (execOp a.eval o).run P w = .ok (.value V) w := by
  unfold qbD at h
  split at h
  · rename_i t ps ho
    exact build_sound hT hE h ho
  · exact quiet_sound hT hE hR h
end
/-! Counting what is not listed -/
def cntF : List Bool → Nat
  | [] => 0
  | b :: r => (if b then 0 else 1) + cntF r
theorem cntF_set : ∀ (l : List Bool) (j : Nat), l[j]? = some false → cntF (l.set j true) + 1 = cntF l
  | [], j, h => by simp at h
  | b :: r, 0, h => by
    simp only [List.getElem?_cons_zero, Option.some.injEq] at h
    subst h
    simp [cntF]; omega
  | b :: r, j + 1, h => by
    have := cntF_set r j (by simpa using h)
    simp only [List.set_cons_succ, cntF]
    omega
theorem cntF_zero : ∀ (l : List Bool), cntF l = 0 → ∀ j, j < l.length → l[j]? = some true
  | [], _, j, hj => by simp at hj
  | b :: r, h, j, hj => by
    simp only [cntF] at h
    cases b with
    | false => simp at h
    | true =>
      cases j with
      | zero => rfl
      | succ j => simpa using cntF_zero r (by simpa using h) j (by simpa using hj)
theorem cntF_le : ∀ (l : List Bool), cntF l ≤ l.length
  | [] => by simp [cntF]
  | b :: r => by have := cntF_le r; simp only [cntF, List.length_cons]; split <;> omega
end Go.D
