/- The evaluator's values against the model's: renamings, worlds, operations that leave memory alone. -/
import Derived.Test.YtjbcafbeafhdpaaGreatDoorD1
import Derived.Test.YtjbcafbeafhdpaaGreatDoorSL8
set_option maxRecDepth 10000
set_option linter.unusedVariables false
set_option linter.unusedSimpArgs false
namespace Go.D
open Go.SL Go.RowKit

/-! ### 1. Finite maps -/
theorem T.get_setF {α : Type} (v : Option α) : ∀ (f k j : Nat) (t : T α), k < f → (T.setF v f k t).get j = if j = k then v else t.get j
  | 0, k, j, t, h => absurd h (by omega)
  | f + 1, k, j, .emp, h => by
    have e1 : Nat.beq k 0 = decide (k = 0) := by cases k <;> rfl
    have e2 : Nat.beq (k % 2) 1 = decide (k % 2 = 1) := by rw [Bool.eq_iff_iff]; simp
    have e3 : Nat.beq j 0 = decide (j = 0) := by cases j <;> rfl
    have e4 : Nat.beq (j % 2) 1 = decide (j % 2 = 1) := by rw [Bool.eq_iff_iff]; simp
    unfold T.setF
    by_cases hk : k = 0
    · subst hk
      simp only [Nat.beq_refl, cond_true, T.get, e3]
      by_cases hj : j = 0
      · simp [hj]
      · simp [hj, T.get]
    · simp only [e1, hk, decide_false, cond_false, e2]
      by_cases hk2 : k % 2 = 1
      · simp only [hk2, decide_true, cond_true, T.get, e3, e4]
        by_cases hj : j = 0
        · subst hj; simp [show ¬ 0 = k by omega]
        · simp only [hj, decide_false, cond_false]
          by_cases hj2 : j % 2 = 1
          · simp only [hj2, decide_true, cond_true]
            rw [T.get_setF v f (k / 2) (j / 2) .emp (by omega)]
            by_cases h2 : j / 2 = k / 2
            · rw [if_pos h2, if_pos (by omega)]
            · rw [if_neg h2, if_neg (by omega)]; rfl
          · simp only [hj2, decide_false, cond_false, T.get]
            rw [if_neg (by omega)]
      · simp only [hk2, decide_false, cond_false, T.get, e3, e4]
        by_cases hj : j = 0
        · subst hj; simp [show ¬ 0 = k by omega]
        · simp only [hj, decide_false, cond_false]
          by_cases hj2 : j % 2 = 1
          · simp only [hj2, decide_true, cond_true, T.get]
            rw [if_neg (by omega)]
          · simp only [hj2, decide_false, cond_false]
            rw [T.get_setF v f (k / 2 - 1) (j / 2 - 1) .emp (by omega)]
            by_cases h2 : j / 2 - 1 = k / 2 - 1
            · rw [if_pos h2, if_pos (by omega)]
            · rw [if_neg h2, if_neg (by omega)]; rfl
  | f + 1, k, j, .n l u r, h => by
    have e1 : Nat.beq k 0 = decide (k = 0) := by cases k <;> rfl
    have e2 : Nat.beq (k % 2) 1 = decide (k % 2 = 1) := by rw [Bool.eq_iff_iff]; simp
    have e3 : Nat.beq j 0 = decide (j = 0) := by cases j <;> rfl
    have e4 : Nat.beq (j % 2) 1 = decide (j % 2 = 1) := by rw [Bool.eq_iff_iff]; simp
    unfold T.setF
    by_cases hk : k = 0
    · subst hk
      simp only [Nat.beq_refl, cond_true, T.get, e3]
      by_cases hj : j = 0
      · simp [hj]
      · simp [hj, T.get]
    · simp only [e1, hk, decide_false, cond_false, e2]
      by_cases hk2 : k % 2 = 1
      · simp only [hk2, decide_true, cond_true, T.get, e3, e4]
        by_cases hj : j = 0
        · subst hj; simp [show ¬ 0 = k by omega]
        · simp only [hj, decide_false, cond_false]
          by_cases hj2 : j % 2 = 1
          · simp only [hj2, decide_true, cond_true]
            rw [T.get_setF v f (k / 2) (j / 2) l (by omega)]
            by_cases h2 : j / 2 = k / 2
            · rw [if_pos h2, if_pos (by omega)]
            · rw [if_neg h2, if_neg (by omega)]
          · simp only [hj2, decide_false, cond_false]
            rw [if_neg (by omega)]
      · simp only [hk2, decide_false, cond_false, T.get, e3, e4]
        by_cases hj : j = 0
        · subst hj; simp [show ¬ 0 = k by omega]
        · simp only [hj, decide_false, cond_false]
          by_cases hj2 : j % 2 = 1
          · simp only [hj2, decide_true, cond_true]
            rw [if_neg (by omega)]
          · simp only [hj2, decide_false, cond_false]
            rw [T.get_setF v f (k / 2 - 1) (j / 2 - 1) r (by omega)]
            by_cases h2 : j / 2 - 1 = k / 2 - 1
            · rw [if_pos h2, if_pos (by omega)]
            · rw [if_neg h2, if_neg (by omega)]
theorem T.get_set {α : Type} (t : T α) (k j : Nat) (v : Option α) : (t.set k v).get j = if j = k then v else t.get j := T.get_setF v (k + 1) k j t (by omega)
theorem T.get_e {α : Type} (j : Nat) : (T.emp : T α).get j = none := rfl

/-! ### 2. Renamings -/
structure Loc where
  b : Nat
  base : Nat
  cap : Nat
abbrev Sg := Nat → Option Loc
def Cap.at_ (L : Loc) : Cap → Nat
  | .known c => c
  | .rest k _ => L.cap - k
def Cap.off (L : Loc) (o : Nat) : Cap → Nat
  | .known _ => o
  | .rest k alt => if L.cap = k then alt else o
mutual
def val (σ : Sg) : DV → Option Value
  | .int k n => some (.int k n)
  | .bool b => some (.bool b)
  | .str s => some (.string ⟨s.toArray⟩)
  | .ptr none => some (.pointer none)
  | .ptr (some a) => match σ a.1 with
    | some L => some (.pointer (some ⟨L.b, L.base + a.2, none⟩))
    | none => none
  | .slice none n (.known c) => if n ≤ c then some (.slice none n c) else none
  | .slice none _ (.rest _ _) => none
  | .slice (some a) n c => match σ a.1 with
    | some L => if n ≤ c.at_ L then some (.slice (some ⟨L.b, L.base + c.off L a.2, none⟩) n (c.at_ L)) else none
    | none => none
  | .map none => some (.map none)
  | .map (some m) => match σ m with
    | some L => some (.map (some L.b))
    | none => none
  | .func f a c => match vals σ a, vals σ c with
    | some A, some C => some (.func (.func f) A.toArray C.toArray)
    | _, _ => none
  | .nilFunc => some .nilFunc
  | .nilIface => some .nilIface
  | .agg cs => match vals σ cs with
    | some C => some (.agg C.toArray)
    | none => none
  | .tuple cs => match vals σ cs with
    | some C => some (.tuple C.toArray)
    | none => none
def vals (σ : Sg) : List DV → Option (List Value)
  | [] => some []
  | v :: r => match val σ v, vals σ r with
    | some V, some R => some (V :: R)
    | _, _ => none
end
def Sg.le (σ σ' : Sg) : Prop := ∀ i L, σ i = some L → σ' i = some L
theorem Sg.le_refl (σ : Sg) : σ.le σ := fun _ _ h => h
theorem Sg.le_trans {a b c : Sg} (h : a.le b) (k : b.le c) : a.le c := fun i L x => k i L (h i L x)
mutual
theorem val_mono {σ σ' : Sg} (h : σ.le σ') : ∀ {v : DV} {V : Value}, val σ v = some V → val σ' v = some V
  | .int .., _, e => by simpa [val] using e
  | .bool _, _, e => by simpa [val] using e
  | .str _, _, e => by simpa [val] using e
  | .ptr none, _, e => by simpa [val] using e
  | .ptr (some a), _, e => by
    simp only [val] at e ⊢
    split at e
    · rename_i L hL; rw [h _ _ hL]; exact e
    · cases e
  | .slice none _ (.known _), _, e => by simpa [val] using e
  | .slice none _ (.rest _ _), _, e => by simp [val] at e
  | .slice (some a) _ _, _, e => by
    simp only [val] at e ⊢
    split at e
    · rename_i L hL; rw [h _ _ hL]; exact e
    · cases e
  | .map none, _, e => by simpa [val] using e
  | .map (some m), _, e => by
    simp only [val] at e ⊢
    split at e
    · rename_i L hL; rw [h _ _ hL]; exact e
    · cases e
  | .func _ a c, _, e => by
    simp only [val] at e ⊢
    split at e
    · rename_i A C hA hC; rw [vals_mono h hA, vals_mono h hC]; exact e
    · cases e
  | .nilFunc, _, e => by simpa [val] using e
  | .nilIface, _, e => by simpa [val] using e
  | .agg cs, _, e => by
    simp only [val] at e ⊢
    split at e
    · rename_i C hC; rw [vals_mono h hC]; exact e
    · cases e
  | .tuple cs, _, e => by
    simp only [val] at e ⊢
    split at e
    · rename_i C hC; rw [vals_mono h hC]; exact e
    · cases e
theorem vals_mono {σ σ' : Sg} (h : σ.le σ') : ∀ {v : List DV} {V : List Value}, vals σ v = some V → vals σ' v = some V
  | [], _, e => by simpa [vals] using e
  | v :: r, _, e => by
    simp only [vals] at e ⊢
    split at e
    · rename_i A C hA hC; rw [val_mono h hA, vals_mono h hC]; exact e
    · cases e
end
theorem vals_cons {σ : Sg} {v : DV} {r : List DV} {Vs : List Value} (h : vals σ (v :: r) = some Vs) : ∃ V R, val σ v = some V ∧ vals σ r = some R ∧ Vs = V :: R := by
  simp only [vals] at h
  split at h
  · rename_i A C hA hC
    simp only [Option.some.injEq] at h
    exact ⟨A, C, hA, hC, h.symm⟩
  · cases h
theorem vals_cons_of {σ : Sg} {v : DV} {r : List DV} {V : Value} {R : List Value} (h : val σ v = some V) (k : vals σ r = some R) : vals σ (v :: r) = some (V :: R) := by simp [vals, h, k]
theorem vals_length {σ : Sg} : ∀ {l : List DV} {L : List Value}, vals σ l = some L → L.length = l.length
  | [], L, h => by simp only [vals, Option.some.injEq] at h; subst h; rfl
  | v :: r, L, h => by
    obtain ⟨V, R, _, h2, rfl⟩ := vals_cons h
    simp [vals_length h2]
theorem vals_get {σ : Sg} : ∀ {l : List DV} {L : List Value} (j : Nat) {v : DV}, vals σ l = some L → l[j]? = some v → ∃ V, val σ v = some V ∧ L[j]? = some V
  | [], L, j, v, h, e => by simp at e
  | x :: r, L, 0, v, h, e => by
    obtain ⟨V, R, h1, h2, rfl⟩ := vals_cons h
    simp at e; subst e
    exact ⟨V, h1, rfl⟩
  | x :: r, L, j + 1, v, h, e => by
    obtain ⟨V, R, h1, h2, rfl⟩ := vals_cons h
    simpa using vals_get j h2 (by simpa using e)
theorem vals_get' {σ : Sg} {l : List DV} {L : List Value} (j : Nat) {V : Value} (h : vals σ l = some L) (e : L[j]? = some V) : ∃ v, l[j]? = some v ∧ val σ v = some V := by
  have hj : j < l.length := by rw [← vals_length h]; exact (List.getElem?_eq_some_iff.1 e).1
  obtain ⟨V', h1, h2⟩ := vals_get j h (List.getElem?_eq_getElem hj)
  rw [e] at h2; injection h2 with h2; subst h2
  exact ⟨_, List.getElem?_eq_getElem hj, h1⟩
theorem vals_of_get {σ : Sg} : ∀ {l : List DV} {L : List Value}, l.length = L.length → (∀ (j : Nat) (v : DV), l[j]? = some v → ∃ V, val σ v = some V ∧ L[j]? = some V) → vals σ l = some L
  | [], [], _, _ => rfl
  | [], _ :: _, h, _ => by simp at h
  | _ :: _, [], h, _ => by simp at h
  | v :: r, V :: R, h, k => by
    obtain ⟨V', h1, h2⟩ := k 0 v rfl
    simp at h2; subst h2
    exact vals_cons_of h1 (vals_of_get (by simpa using h) fun j u e => by simpa using k (j + 1) u (by simpa using e))
theorem vals_append {σ : Sg} : ∀ {a b : List DV} {A B : List Value}, vals σ a = some A → vals σ b = some B → vals σ (a ++ b) = some (A ++ B)
  | [], b, A, B, h, k => by simp only [vals, Option.some.injEq] at h; subst h; exact k
  | v :: r, b, A, B, h, k => by
    obtain ⟨V, R, h1, h2, rfl⟩ := vals_cons h
    exact vals_cons_of h1 (vals_append h2 k)
theorem vals_take {σ : Sg} {l : List DV} {L : List Value} (h : vals σ l = some L) (n : Nat) : vals σ (l.take n) = some (L.take n) := by
  refine vals_of_get (by simp [vals_length h]) fun j v e => ?_
  rw [List.getElem?_take] at e ⊢
  split at e
  · rename_i hj; rw [if_pos hj]; exact vals_get j h e
  · cases e
theorem vals_drop {σ : Sg} {l : List DV} {L : List Value} (h : vals σ l = some L) (n : Nat) : vals σ (l.drop n) = some (L.drop n) := by
  refine vals_of_get (by simp [vals_length h]) fun j v e => ?_
  rw [List.getElem?_drop] at e ⊢
  exact vals_get _ h e
/-- What a renamed value looks like. -/
def flatV : DV → Value → Prop
  | .agg _, _ => True
  | .tuple _, V => V.cells = #[V]
  | _, V => V.cells = #[V] ∧ V.oneCell' = true
theorem val_flat {σ : Sg} : ∀ {v : DV} {V : Value}, val σ v = some V → flatV v V
  | .int .., _, h => by simp only [val, Option.some.injEq] at h; subst h; exact ⟨rfl, rfl⟩
  | .bool _, _, h => by simp only [val, Option.some.injEq] at h; subst h; exact ⟨rfl, rfl⟩
  | .str _, _, h => by simp only [val, Option.some.injEq] at h; subst h; exact ⟨rfl, rfl⟩
  | .ptr none, _, h => by simp only [val, Option.some.injEq] at h; subst h; exact ⟨rfl, rfl⟩
  | .ptr (some a), _, h => by
    simp only [val] at h
    split at h
    · simp only [Option.some.injEq] at h; subst h; exact ⟨rfl, rfl⟩
    · cases h
  | .slice none _ (.known _), _, h => by
    simp only [val] at h
    split at h
    · simp only [Option.some.injEq] at h; subst h; exact ⟨rfl, rfl⟩
    · cases h
  | .slice none _ (.rest _ _), _, h => by simp [val] at h
  | .slice (some a) _ _, _, h => by
    simp only [val] at h
    split at h
    · split at h
      · simp only [Option.some.injEq] at h; subst h; exact ⟨rfl, rfl⟩
      · cases h
    · cases h
  | .map none, _, h => by simp only [val, Option.some.injEq] at h; subst h; exact ⟨rfl, rfl⟩
  | .map (some m), _, h => by
    simp only [val] at h
    split at h
    · simp only [Option.some.injEq] at h; subst h; exact ⟨rfl, rfl⟩
    · cases h
  | .func _ a c, _, h => by
    simp only [val] at h
    split at h
    · simp only [Option.some.injEq] at h; subst h; exact ⟨rfl, rfl⟩
    · cases h
  | .nilFunc, _, h => by simp only [val, Option.some.injEq] at h; subst h; exact ⟨rfl, rfl⟩
  | .nilIface, _, h => by simp only [val, Option.some.injEq] at h; subst h; exact ⟨rfl, rfl⟩
  | .agg cs, _, h => trivial
  | .tuple cs, _, h => by
    simp only [val] at h
    split at h
    · simp only [Option.some.injEq] at h; subst h; exact rfl
    · cases h
/-- A value's cells, renamed. -/
theorem val_cells {σ : Sg} {v : DV} {V : Value} (h : val σ v = some V) : vals σ v.cells = some V.cells.toList := by
  have hf := val_flat h
  cases v with
  | agg cs =>
    simp only [val] at h
    split at h
    · rename_i C hC; simp only [Option.some.injEq] at h; subst h; simpa [DV.cells, Value.cells] using hC
    · cases h
  | tuple cs =>
    have hc : V.cells = #[V] := hf
    rw [hc]
    simp [DV.cells, vals, h]
  | _ =>
    have hc : V.cells = #[V] := hf.1
    rw [hc]
    simp [DV.cells, vals, h]
theorem val_one {σ : Sg} {v : DV} {V : Value} (h : val σ v = some V) (h1 : v.one = true) : V.oneCell' = true := by
  have hf := val_flat h
  cases v <;> first | (cases h1; done) | exact hf.2
theorem ofCell_val {σ : Sg} {V : Value} {v : DV} (h : ofCell V = some v) : val σ v = some V := by
  unfold ofCell at h
  split at h <;> first | (cases h; done) | (simp only [Option.some.injEq] at h; subst h; simp [val]; done) | skip
  rename_i n c
  cases hb : Nat.ble n c with
  | false => rw [hb] at h; cases h
  | true =>
    rw [hb] at h
    simp only [cond_true, Option.some.injEq] at h
    subst h
    simp [val, Nat.le_of_ble_eq_true hb]
theorem ofCells_val {σ : Sg} : ∀ {L : List Value} {l : List DV}, ofCells L = some l → vals σ l = some L
  | [], l, h => by simp only [ofCells, Option.some.injEq] at h; subst h; rfl
  | V :: R, l, h => by
    simp only [ofCells] at h
    split at h
    · rename_i d ds hd hds
      simp only [Option.some.injEq] at h
      subst h
      exact vals_cons_of (ofCell_val hd) (ofCells_val hds)
    · cases h
theorem ofValue_val {σ : Sg} {V : Value} {v : DV} (h : ofValue V = some v) : val σ v = some V := by
  unfold ofValue at h
  split at h
  · split at h
    · rename_i ds hds; simp only [Option.some.injEq] at h; subst h; simp [val, ofCells_val hds]
    · cases h
  · split at h
    · rename_i ds hds; simp only [Option.some.injEq] at h; subst h; simp [val, ofCells_val hds]
    · cases h
  · exact ofCell_val h
end Go.D
