/- Regions in the order of the text. -/
import Derived.Test.YtjbcafbeafhdpaaGreatDoorD9
set_option maxRecDepth 10000
set_option linter.unusedVariables false
set_option linter.unusedSimpArgs false
namespace Go.D
open Go.SL Go.RowKit
section
variable {P : Program} {Λ : Tys} {Λs : Lay} {σ : Sg} {G : Gh} {n : Nat} {E : DE} {s : St} {a : Act} {w : World}
theorem EnvR.slot (h : EnvR σ n E a) {t : Nat} {v : DV} (ht : E.get t = some v) : ∃ V, val σ v = some V ∧ a.tmps[t]? = some V := by
  obtain ⟨h1, V, h2, h3⟩ := h.at_ t v ht
  refine ⟨V, h2, ?_⟩
  rw [Array.getD_eq_getD_getElem?] at h3
  rw [← h.size] at h1
  rw [Array.getElem?_eq_getElem h1] at h3 ⊢
  simpa using h3
theorem wantsD_spec {ops : Array Oper} {o : Oper} {b : Bool} (hE : EnvR σ n E a) (h : wantsD ops.toList E o.guard = some b) : Region.wanted o (yielded ops a.tmps) = b := by
  unfold Region.wanted
  cases hg : o.guard with
  | none => rw [hg] at h; simpa [wantsD] using h
  | some p =>
    obtain ⟨j, want⟩ := p
    rw [hg] at h
    simp only [wantsD] at h
    split at h
    · rename_i oj hj
      have hj' : ops[j]? = some oj := by rw [Array.getElem?_toList] at hj; exact hj
      split at h
      · rename_i d hd
        split at h
        · rename_i b' hb
          simp only [Option.some.injEq] at h
          subst h
          obtain ⟨V, k1, k2⟩ := hE.slot hb
          rw [val_bool k1] at k2
          simp [yielded, hj', hd, k2]
        · rename_i hb
          simp only [Option.some.injEq] at h
          subst h
          obtain ⟨V, k1, k2⟩ := hE.slot hb
          have hV : V = .tuple #[] := by simp only [val, vals, Option.some.injEq] at k1; exact k1.symm
          rw [hV] at k2
          have h2 : yielded ops a.tmps j = none := by simp [yielded, hj', hd, k2]
          simp [h2]
        · cases h
      · cases h
    · cases h
theorem list_sound {P0 : Env0} {call : CallF} (hT : TysOk P P0.tys Λs) (hX : ExtsOk P P0) (hC : CallOk P call) {all : Array Oper} {Q : Exit → Act → World → Prop} : ∀ (ops : List Oper) {E E' : DE} {s s' : St} {σ : Sg} {a : Act} {w : World}, EnvR σ n E a → Rel G σ s w →
    listD P0 call n all.toList ops E s = some (E', s') → (∀ σ' a' w', Grow s s' σ σ' → EnvR σ' n E' a' → Rel G σ' s' w' → Q .normal a' w') → wpList P all Q ops a w
  | [], E, E', s, s', σ, a, w, hE, hR, h, hQ => by
    simp only [listD, Option.some.injEq, Prod.mk.injEq] at h
    obtain ⟨rfl, rfl⟩ := h
    exact wpList_nil (hQ σ a w (Grow.refl _ _) hE hR)
  | o :: r, E, E', s, s', σ, a, w, hE, hR, h, hQ => by
    simp only [listD] at h
    unfold wpList
    split at h
    · rename_i hw
      rw [if_pos (wantsD_spec hE hw)]
      split at h
      · rename_i v s1 hop
        split at h
        · rename_i E1 hp
          refine .inl (oper_sound hT hX hC hE hR hop fun σ1 V w1 g1 g2 g3 => ?_)
          exact list_sound hT hX hC r ((hE.mono g1.le).put g2 hp) g3 h fun σ2 a2 w2 k1 k2 k3 => hQ σ2 a2 w2 (g1.trans k1) k2 k3
        · cases h
      · cases h
    · rename_i hw
      rw [if_neg (by rw [wantsD_spec hE hw]; simp)]
      split at h
      · rename_i E1 hp
        exact list_sound hT hX hC r (hE.put (V := .tuple #[]) (by simp [val, vals]) hp) hR h hQ
      · cases h
    · cases h
end
end Go.D
