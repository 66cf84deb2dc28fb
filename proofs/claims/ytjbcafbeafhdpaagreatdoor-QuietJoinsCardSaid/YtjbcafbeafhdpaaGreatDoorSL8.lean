import Derived.Test.YtjbcafbeafhdpaaGreatDoorSL7
set_option maxRecDepth 10000
set_option linter.unusedVariables false
set_option linter.unusedSimpArgs false
namespace Go.SL
open Go.RowKit

/-! ### 10. Results that lie in memory; rows cut and written -/
section
variable {P : Program} {Λ : Lay} {n : Nat} {ops all : Array Oper} {Q Q' : Exit → Act → World → Prop} {E E' : Env} {ρ ρ0 ρ' : Gh} {H H' Hk F : Heap} {fuel : Nat} {listed : Array Bool} {rest : List Oper}
theorem run_loadVar {i : TI} {t : Nat} (hi : OkTI P t i) {b p : Nat} {cs : List Value} (hl : cs.length = i.size) {v : Value} (hv : whole i cs = some v) {w : World} (hc : ∀ j u, cs[j]? = some u → w.cell? ⟨b, p + j, none⟩ = some u) :
    (loadVar t ⟨b, p, none⟩).run P w = .ok v w := by
  have := run_loadAt (P := P) hi hl hv hc
  simpa [Instr.loadAt, Instr.sureAddr] using this
theorem res_cell (hΛ : OkLay P Λ) {t r : Nat} {i : TI} (hi : lay Λ t = some i) {b : Nat} {cs : List Value} [hc : Has H b cs] (hl : Nat.beq (cs.take i.size).length i.size = true) {v : Value} (hv : whole i (cs.take i.size) = some v) {a : Act} {w : World} (ha : Ag n E a) (s : Sat ρ H w) (hb : find E r = some (.pointer (some ⟨b, 0, none⟩))) :
    (asAddr (a.tmps[r]?.getD undef)).run P w = .ok ⟨b, 0, none⟩ w ∧ (loadVar t ⟨b, 0, none⟩).run P w = .ok v w := by
  have h1 := run_loadVar (P := P) (hΛ t i hi) (b := b) (p := 0) (cs := cs.take i.size) (Nat.eq_of_beq_eq_true hl) hv (w := w) (fun j u hj => by
    refine s.owns.cell hc ?_
    rw [List.getElem?_take] at hj
    split at hj
    · simpa using hj
    · cases hj)
  have h2 := ha.at_ r _ hb
  rw [Array.getD_eq_getD_getElem?] at h2
  rw [h2]
  exact ⟨by simp [asAddr], h1⟩
theorem WX.retc1 (hΛ : OkLay P Λ) {fn : Func} {e : Exit} {R : Value → Gh → Heap → Prop} {r t : Nat} {ρ0 : Gh} (he : e = .ret ∨ e = .normal) (hr : fn.results = #[.cell r t]) {i : TI} (hi : lay Λ t = some i) {b : Nat} (hb : find E r = some (.pointer (some ⟨b, 0, none⟩))) {cs : List Value} [hc : Has H b cs]
    (hl : Nat.beq (cs.take i.size).length i.size = true) {v : Value} (hv : whole i (cs.take i.size) = some v) (hle : ρ0 ≤ ρ) {H1 : Heap} (hR : R v ρ H1) {HF : Heap} [hF : App H1 F HF] [hH : HIn HF H] : WX n e (postOf P fn ρ0 F R) E ρ H := ⟨fun a w ha s => by
  obtain ⟨h1, h2⟩ := res_cell (P := P) hΛ hi (hc := hc) hl hv ha s hb
  have : bodyPost P fn (fun e w' => ∃ v ρ' H', e = .returned v ∧ ρ0 ≤ ρ' ∧ R v ρ' H' ∧ Sat ρ' (H' ++ F) w') .ret a w :=
    ⟨ha.defers, v, by
      simp [results, hr, h1, h2], v, ρ, H1, rfl, hle, hR, by rw [hF.eq]; exact s.sub hH⟩
  rcases he with rfl | rfl <;> exact ⟨this⟩⟩
theorem WX.retc2 (hΛ : OkLay P Λ) {fn : Func} {e : Exit} {R : Value → Gh → Heap → Prop} {r t r2 : Nat} {ρ0 : Gh} (he : e = .ret ∨ e = .normal) (hr : fn.results = #[.cell r t, .tmp r2]) {i : TI} (hi : lay Λ t = some i) {b : Nat} (hb : find E r = some (.pointer (some ⟨b, 0, none⟩))) {cs : List Value} [hc : Has H b cs]
    (hl : Nat.beq (cs.take i.size).length i.size = true) {v v2 : Value} (hv : whole i (cs.take i.size) = some v) (hv2 : find E r2 = some v2) (hle : ρ0 ≤ ρ) {H1 : Heap} (hR : R (.tuple #[v, v2]) ρ H1) {HF : Heap} [hF : App H1 F HF] [hH : HIn HF H] : WX n e (postOf P fn ρ0 F R) E ρ H := ⟨fun a w ha s => by
  obtain ⟨h1, h2⟩ := res_cell (P := P) hΛ hi (hc := hc) hl hv ha s hb
  have : bodyPost P fn (fun e w' => ∃ v ρ' H', e = .returned v ∧ ρ0 ≤ ρ' ∧ R v ρ' H' ∧ Sat ρ' (H' ++ F) w') .ret a w :=
    ⟨ha.defers, .tuple #[v, v2], by
      simp [results, hr, h1, h2, ← ha.at_ r2 v2 hv2], _, ρ, H1, rfl, hle, hR, by rw [hF.eq]; exact s.sub hH⟩
  rcases he with rfl | rfl <;> exact ⟨this⟩⟩
theorem WX.retc3 (hΛ : OkLay P Λ) {fn : Func} {e : Exit} {R : Value → Gh → Heap → Prop} {r t r2 r3 : Nat} {ρ0 : Gh} (he : e = .ret ∨ e = .normal) (hr : fn.results = #[.cell r t, .tmp r2, .tmp r3]) {i : TI} (hi : lay Λ t = some i) {b : Nat} (hb : find E r = some (.pointer (some ⟨b, 0, none⟩))) {cs : List Value} [hc : Has H b cs]
    (hl : Nat.beq (cs.take i.size).length i.size = true) {v v2 v3 : Value} (hv : whole i (cs.take i.size) = some v) (hv2 : find E r2 = some v2) (hv3 : find E r3 = some v3) (hle : ρ0 ≤ ρ) {H1 : Heap} (hR : R (.tuple #[v, v2, v3]) ρ H1) {HF : Heap} [hF : App H1 F HF] [hH : HIn HF H] : WX n e (postOf P fn ρ0 F R) E ρ H := ⟨fun a w ha s => by
  obtain ⟨h1, h2⟩ := res_cell (P := P) hΛ hi (hc := hc) hl hv ha s hb
  have : bodyPost P fn (fun e w' => ∃ v ρ' H', e = .returned v ∧ ρ0 ≤ ρ' ∧ R v ρ' H' ∧ Sat ρ' (H' ++ F) w') .ret a w :=
    ⟨ha.defers, .tuple #[v, v2, v3], by
      simp [results, hr, h1, h2, ← ha.at_ r2 v2 hv2, ← ha.at_ r3 v3 hv3], _, ρ, H1, rfl, hle, hR, by rw [hF.eq]; exact s.sub hH⟩
  rcases he with rfl | rfl <;> exact ⟨this⟩⟩

/-- A row's beginning is a row: what stands behind it is let go. -/
theorem Sat.rowTake {w : World} {A : Option Addr} {m cap k : Nat} {e : TypeId} {sz : Nat} {cs : List Value} (s : Sat ρ (.row (.slice A m cap) e sz cs :: H) w) (hk : k ≤ m) : Sat ρ (.row (.slice A k cap) e sz (cs.take (k * sz)) :: H) w := by
  obtain ⟨j, h⟩ := s.owns.1
  refine ⟨s.ghost, ⟨⟨k, ?_, ?_⟩, fun b hb => s.owns.2.1 b (by cases A <;> exact hb), s.owns.2.2⟩, s.os, s.tape, s.output⟩
  · have hj : m = j := by
      rcases h.2 with ⟨h0, h1⟩ | ⟨gb, cap', cur, h0, _⟩
      · injection h0 with _ h0 _; omega
      · injection h0
    subst hj
    rw [List.length_take, h.1]
    exact Nat.min_eq_left (Nat.mul_le_mul_right _ hk)
  · rcases h.2 with ⟨h0, h1⟩ | ⟨gb, cap', cur, h0, hb, hg, hle, hm, hsz, ht⟩
    · injection h0 with e1 e2 e3
      subst e1; subst e3
      left
      exact ⟨by rw [show k = 0 by omega], by omega⟩
    · injection h0 with e1 e2 e3
      subst e1; subst e2; subst e3
      right
      refine ⟨gb, cap, cur, rfl, hb, hg, by omega, hm, hsz, ?_⟩
      rw [← ht, List.take_take, Nat.min_eq_left (Nat.mul_le_mul_right _ hk)]
theorem WC.rowTake {c : Code} {A : Option Addr} {m cap k : Nat} {e : TypeId} {sz : Nat} {cs : List Value} (hp : Pick (.row (.slice A m cap) e sz cs) H H') (hk : k ≤ m) (h : WC P n c Q E ρ (.row (.slice A k cap) e sz (cs.take (k * sz)) :: H')) : WC P n c Q E ρ H := ⟨fun a w ha s => h.go a w ha ((s.pick hp).rowTake hk)⟩
theorem WL.rowTake {A : Option Addr} {m cap k : Nat} {e : TypeId} {sz : Nat} {cs : List Value} (hp : Pick (.row (.slice A m cap) e sz cs) H H') (hk : k ≤ m) (h : WL P n all Q rest E ρ (.row (.slice A k cap) e sz (cs.take (k * sz)) :: H')) : WL P n all Q rest E ρ H := ⟨fun a w ha s => h.go a w ha ((s.pick hp).rowTake hk)⟩
/-- A heap by another spelling. -/
theorem WL.heapEq (e : H = H') (h : WL P n all Q rest E ρ H') : WL P n all Q rest E ρ H := e ▸ h
theorem WC.heapEq {c : Code} (e : H = H') (h : WC P n c Q E ρ H') : WC P n c Q E ρ H := e ▸ h
theorem WX.heapEq {ex : Exit} (e : H = H') (h : WX n ex Q E ρ H') : WX n ex Q E ρ H := e ▸ h
theorem setL_get (vs cs : List Value) : ∀ (p : Nat), p + vs.length ≤ cs.length → ∀ j, (setL cs p vs)[j]? = if p ≤ j ∧ j < p + vs.length then vs[j - p]? else cs[j]? := by
  induction vs generalizing cs with
  | nil => intro p _ j; simp only [setL, List.length_nil, Nat.add_zero]; rw [if_neg (by omega)]
  | cons v vs ih =>
    intro p hp j
    simp only [List.length_cons] at hp ⊢
    rw [setL, ih _ (p + 1) (by simp; omega)]
    by_cases h1 : p + 1 ≤ j ∧ j < p + 1 + vs.length
    · rw [if_pos h1, if_pos (by omega), show j - p = (j - (p + 1)) + 1 by omega, List.getElem?_cons_succ]
    · rw [if_neg h1]
      by_cases h2 : j = p
      · subst h2
        rw [if_pos (by omega), Nat.sub_self, List.getElem?_cons_zero, List.getElem?_set_self (by omega)]
      · rw [if_neg (by omega), List.getElem?_set_ne (by omega)]
end
end Go.SL
