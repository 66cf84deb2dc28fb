/- The evaluator's worlds and environments; operations that leave memory alone are as the model's. -/
import Derived.Test.YtjbcafbeafhdpaaGreatDoorD2
set_option maxRecDepth 10000
set_option linter.unusedVariables false
set_option linter.unusedSimpArgs false
namespace Go.D
open Go.SL Go.RowKit

/-! ### 3. Worlds and environments -/
def entriesR (σ : Sg) : List (DV × DV × Nat) → List MapEntry → Prop
  | [], [] => True
  | (k, v, t) :: r, e :: s => val σ k = some e.key ∧ val σ v = some e.val ∧ e.born = t ∧ entriesR σ r s
  | _, _ => False
/-- A block is as it is said to be. -/
def Holds (σ : Sg) (L : Loc) (w : World) : DObj → Prop
  | .cells t sz cs => ∃ c, w.heap[L.b]? = some (.cells c t (0, 0)) ∧ L.base + cs.length ≤ c.size ∧ L.base + L.cap * sz ≤ c.size ∧ (sz = 0 → L.base = 0 ∧ c.size = cs.length) ∧ ∀ (j : Nat) (v : DV), cs[j]? = some v → ∃ V, val σ v = some V ∧ c[L.base + j]? = some V
  | .map es clock => ∃ es', w.heap[L.b]? = some (.map es' clock) ∧ entriesR σ es es'.toList
structure Rel (G : Gh) (σ : Sg) (s : St) (w : World) : Prop where
  ghost : ∀ b o, G.objs b = some o → w.heap[b]? = some o
  os : w.os = G.os
  tape : w.tape = G.tape
  output : w.output = G.output
  live : ∀ id o, s.h.get id = some o → ∃ L, σ id = some L ∧ G.objs L.b = none ∧ L.b < w.heap.size ∧ Holds σ L w o
  inj : ∀ id id' o o' L L', s.h.get id = some o → s.h.get id' = some o' → σ id = some L → σ id' = some L' → L.b = L'.b → id = id'
  fresh : ∀ id, s.nx ≤ id → σ id = none
structure EnvR (σ : Sg) (n : Nat) (E : DE) (a : Act) : Prop where
  size : a.tmps.size = n
  defers : a.defers = []
  at_ : ∀ t v, E.get t = some v → t < n ∧ ∃ V, val σ v = some V ∧ a.tmps.getD t undef = V
theorem EnvR.mono {σ σ' : Sg} {n : Nat} {E : DE} {a : Act} (h : EnvR σ n E a) (hs : σ.le σ') : EnvR σ' n E a :=
  ⟨h.size, h.defers, fun t v ht => let ⟨h1, V, h2, h3⟩ := h.at_ t v ht; ⟨h1, V, val_mono hs h2, h3⟩⟩
theorem EnvR.put {σ : Sg} {n : Nat} {E E' : DE} {a : Act} (h : EnvR σ n E a) {d : Option Nat} {v : DV} {V : Value} (hv : val σ v = some V) (hd : dput n E d v = some E') : EnvR σ n E' (a.put d V) := by
  cases d with
  | none => simp only [dput, Option.some.injEq] at hd; subst hd; exact h
  | some d =>
    simp only [dput] at hd
    cases hb : Nat.blt d n with
    | false => rw [hb] at hd; cases hd
    | true =>
      rw [hb] at hd
      simp only [cond_true, Option.some.injEq] at hd
      subst hd
      have hd' : d < n := by simpa [Nat.blt_eq] using hb
      refine ⟨by simp [Act.put, h.size], h.defers, fun t u ht => ?_⟩
      rw [T.get_set] at ht
      simp only [Act.put]
      by_cases hk : t = d
      · subst hk
        simp only [if_true, Option.some.injEq] at ht
        subst ht
        refine ⟨hd', V, hv, ?_⟩
        rw [Array.getD_eq_getD_getElem?, Array.getElem?_setIfInBounds_self_of_lt (by rw [h.size]; exact hd')]
        rfl
      · rw [if_neg hk] at ht
        obtain ⟨h1, U, h2, h3⟩ := h.at_ t u ht
        refine ⟨h1, U, h2, ?_⟩
        rw [Array.getD_eq_getD_getElem?] at h3 ⊢
        rw [Array.getElem?_setIfInBounds_ne (fun e => hk e.symm)]
        exact h3
/-- All slots, as the small library's environment. -/
def full (a : Act) : Nat → SL.Env
  | 0 => []
  | n + 1 => (n, a.tmps.getD n undef) :: full a n
theorem full_find (a : Act) : ∀ (n t : Nat), find (full a n) t = if t < n then some (a.tmps.getD t undef) else none
  | 0, t => by simp [full, find]
  | n + 1, t => by
    rw [full, find_cons, full_find a n t]
    by_cases h : n = t
    · subst h; simp
    · rw [if_neg h]
      by_cases h2 : t < n
      · rw [if_pos h2, if_pos (by omega)]
      · rw [if_neg h2, if_neg (by omega)]
theorem EnvR.ag {σ : Sg} {n : Nat} {E : DE} {a : Act} (h : EnvR σ n E a) : Ag n (full a n) a := ⟨h.size, h.defers, fun t v hf => by
  rw [full_find] at hf
  split at hf
  · simpa using hf
  · cases hf⟩
theorem EnvR.dev {σ : Sg} {n : Nat} {E : DE} {a : Act} (h : EnvR σ n E a) {x : Operand} {v : DV} (hx : dev E x = some v) : ∃ V, val σ v = some V ∧ ev (full a n) x = some V ∧ a.eval x = V := by
  cases x with
  | tmp t =>
    obtain ⟨h1, V, h2, h3⟩ := h.at_ t v hx
    refine ⟨V, h2, ?_, h3⟩
    simp only [ev, full_find, if_pos h1, h3]
  | const u => exact ⟨u, ofValue_val hx, rfl, rfl⟩
  | global g => cases hx
  | func f => simp only [D.dev, Option.some.injEq] at hx; subst hx; exact ⟨_, by simp [val, vals], rfl, rfl⟩
theorem EnvR.devs {σ : Sg} {n : Nat} {E : DE} {a : Act} (h : EnvR σ n E a) : ∀ {xs : List Operand} {vs : List DV}, D.devs E xs = some vs → ∃ Vs, vals σ vs = some Vs ∧ evs (full a n) xs = some Vs ∧ xs.map a.eval = Vs
  | [], vs, hx => by simp only [D.devs, Option.some.injEq] at hx; subst hx; exact ⟨[], rfl, rfl, rfl⟩
  | x :: r, vs, hx => by
    simp only [D.devs] at hx
    split at hx
    · rename_i v us hv hus
      simp only [Option.some.injEq] at hx
      subst hx
      obtain ⟨V, h1, h2, h3⟩ := h.dev hv
      obtain ⟨Vs, h4, h5, h6⟩ := h.devs hus
      exact ⟨V :: Vs, vals_cons_of h1 h4, by simp [evs, h2, h5], by simp [h3, h6]⟩
    · cases hx
/-- The table of types is the program's. -/
structure TysOk (P : Program) (Λ : Tys) (Λs : Lay) : Prop where
  get : ∀ t, Λ.get t = lay Λs t
  ok : OkLay P Λs
  up : ∀ t u, Λ.ups.get t = some u → P.underlying t = some .unsafePointer
  lie : ∀ p ∈ Λ.lies, liesAt P P.depth p.1 1 0 p.2 1 = true
  eq : ∀ t u, Λ.eqt.get t = some u → P.stoodInHeld t = false ∧ P.eqGuardType P.depth t = false ∧ ∀ fs, P.underlying t = some (.struct fs) → ∀ f ∈ fs.toList, f.name ≠ "_"
theorem TysOk.ti {P : Program} {Λ : Tys} {Λs : Lay} (h : TysOk P Λ Λs) {t : Nat} {i : TI} (ht : Λ.get t = some i) : OkTI P t i := h.ok t i (by rw [← h.get]; exact ht)
theorem tyUnd_undOf {P : Program} {Λ : Tys} {Λs : Lay} (h : TysOk P Λ Λs) (t : Nat) : tyUnd Λ t = undOf Λs t := by unfold tyUnd undOf; rw [h.get]; cases lay Λs t <;> rfl
theorem tyUnd_spec {P : Program} {Λ : Tys} {Λs : Lay} (h : TysOk P Λ Λs) {t : Nat} {u : Und} (ht : tyUnd Λ t = some u) : ∃ i, OkTI P t i ∧ i.und = u := undOf_spec h.ok (by rw [← tyUnd_undOf h]; exact ht)
theorem fieldD_fieldOff {P : Program} {Λ : Tys} {Λs : Lay} (h : TysOk P Λ Λs) {t i : Nat} {r : TI × Nat} (ht : fieldD Λ t i = some r) : fieldOff Λs t i = some r := by
  unfold fieldD at ht
  unfold fieldOff
  rw [← h.get]
  split at ht
  · rename_i fs s b z he
    rw [he]
    simp only
    split at ht
    · rename_i ft off hf
      rw [hf]
      simp only
      rw [← h.get]
      split at ht
      · rename_i fi hfi
        rw [hfi]
        exact ht
      · cases ht
    · cases ht
  · cases ht
theorem dwrap_eq (k : IntKind) (n : Int) : dwrap k n = k.wrap n := by
  unfold dwrap
  split
  · cases hb : inI64 n with
    | false => rfl
    | true =>
      simp only [inI64, Bool.and_eq_true, decide_eq_true_eq] at hb
      simp only [cond_true]
      rw [IntKind.wrap_i64]; omega
  · rfl
theorem beqB_eq : ∀ (a b : List UInt8), beqB a b = decide (a = b)
  | [], [] => by simp [beqB]
  | [], _ :: _ => by simp [beqB]
  | _ :: _, [] => by simp [beqB]
  | a :: r, b :: s => by
    simp only [beqB, beqB_eq r s]
    by_cases h : a = b
    · subst h; simp
    · have : Nat.beq a.toNat b.toNat = false := by
        cases hb : Nat.beq a.toNat b.toNat with
        | false => rfl
        | true => exact absurd (UInt8.toNat_inj.1 (Nat.eq_of_beq_eq_true hb)) h
      simp [this, h]
theorem bytes_eq (a b : List UInt8) : ((⟨a.toArray⟩ : ByteArray) = ⟨b.toArray⟩) ↔ a = b := by
  constructor
  · intro h
    have := congrArg (fun x : ByteArray => x.data.toList) h
    simpa using this
  · rintro rfl; rfl
section
variable {P : Program} {Λ : Tys} {Λs : Lay} {σ : Sg} {G : Gh} {n : Nat} {E : DE} {s : St} {a : Act} {w : World}
theorem Rel.cells {t sz b : Nat} {cs : List DV} (h : Rel G σ s w) (hb : s.h.get b = some (.cells t sz cs)) : ∃ L c, σ b = some L ∧ G.objs L.b = none ∧ w.heap[L.b]? = some (.cells c t (0, 0)) ∧ L.base + cs.length ≤ c.size ∧ L.base + L.cap * sz ≤ c.size ∧
    (∀ (j : Nat) (v : DV), cs[j]? = some v → ∃ V, val σ v = some V ∧ c[L.base + j]? = some V) := by
  obtain ⟨L, h1, h2, _, c, h3, h4, h5, _, h6⟩ := h.live b _ hb
  exact ⟨L, c, h1, h2, h3, h4, h5, h6⟩
/-- A block that is known whole. -/
theorem Rel.exact {t b : Nat} {cs : List DV} (h : Rel G σ s w) (hb : s.h.get b = some (.cells t 0 cs)) : ∃ L c, σ b = some L ∧ w.heap[L.b]? = some (.cells c t (0, 0)) ∧ L.base = 0 ∧ c.size = cs.length := by
  obtain ⟨L, h1, h2, _, c, h3, h4, h5, h7, h6⟩ := h.live b _ hb
  obtain ⟨h8, h9⟩ := h7 rfl
  exact ⟨L, c, h1, h3, h8, h9⟩
theorem Rel.cellsAt {b o k : Nat} {cs : List DV} (h : Rel G σ s w) (hb : cellsAt s.h b o k = some cs) : ∃ L Cs, σ b = some L ∧ vals σ cs = some Cs ∧ Cs.length = k ∧ ∀ (j : Nat) (V : Value), Cs[j]? = some V → w.cell? ⟨L.b, L.base + o + j, none⟩ = some V := by
  unfold D.cellsAt at hb
  split at hb
  · rename_i t sz cs0 hget
    obtain ⟨L, c, h1, h2, h3, h4, h5, h6⟩ := h.cells hget
    cases hl : Nat.beq ((cs0.drop o).take k).length k with
    | false => simp only [hl, cond_false] at hb; cases hb
    | true =>
      simp only [hl, cond_true, Option.some.injEq] at hb
      have hlen := Nat.eq_of_beq_eq_true hl
      subst hb
      have hv : ∃ Cs, vals σ ((cs0.drop o).take k) = some Cs := by
        have : ∀ (l : List DV), (∀ v ∈ l, ∃ V, val σ v = some V) → ∃ Cs, vals σ l = some Cs := by
          intro l
          induction l with
          | nil => exact fun _ => ⟨[], rfl⟩
          | cons v r ih =>
            intro hh
            obtain ⟨V, hV⟩ := hh v (List.mem_cons_self ..)
            obtain ⟨R, hR⟩ := ih fun u hu => hh u (List.mem_cons_of_mem _ hu)
            exact ⟨V :: R, vals_cons_of hV hR⟩
        refine this _ fun v hm => ?_
        obtain ⟨j, hj⟩ := List.getElem?_of_mem (List.mem_of_mem_drop (List.mem_of_mem_take hm))
        obtain ⟨V, hV, _⟩ := h6 j v hj
        exact ⟨V, hV⟩
      obtain ⟨Cs, hCs⟩ := hv
      refine ⟨L, Cs, h1, hCs, by rw [vals_length hCs, hlen], fun j V hj => ?_⟩
      obtain ⟨v, hv, hvV⟩ := vals_get' j hCs hj
      rw [List.getElem?_take] at hv
      split at hv
      · rw [List.getElem?_drop] at hv
        obtain ⟨V', h7, h8⟩ := h6 _ v hv
        rw [hvV] at h7
        injection h7 with h7
        subst h7
        simp only [World.cell?, h3]
        rw [show L.base + o + j = L.base + (o + j) by omega]
        simpa using h8
      · cases hv
  · cases hb
theorem whole_val {i : TI} {cs : List DV} {Cs : List Value} (hc : vals σ cs = some Cs) {v : DV} (hv : wholeD i.und cs = some v) : ∃ V, val σ v = some V ∧ whole i Cs = some V := by
  unfold wholeD at hv
  unfold whole
  split at hv
  · cases hv
  · rename_i fs hu
    simp only [Option.some.injEq] at hv
    subst hv
    rw [hu]
    exact ⟨_, by simp [val, hc], rfl⟩
  · rename_i hno hns
    split at hv
    · rename_i u
      simp only [Option.some.injEq] at hv
      subst hv
      obtain ⟨V, R, h1, h2, rfl⟩ := vals_cons hc
      simp only [vals, Option.some.injEq] at h2
      subst h2
      refine ⟨V, h1, ?_⟩
      split
      · contradiction
      · exact absurd (by assumption) (hns _)
      · rfl
    · cases hv
/-- The small library's laws on values ask for a world that holds nothing of one's own. -/
def gh0 (w : World) : Gh := ⟨fun _ => none, w.os, w.tape, w.output⟩
theorem sat0 (w : World) : Sat (gh0 w) [] w := ⟨fun _ _ h => (by cases h), trivial, rfl, rfl, rfl⟩
end
end Go.D
