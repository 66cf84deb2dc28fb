import Derived.Test.YtjbcafbeafhdpaaGreatDoorSL5
set_option maxRecDepth 10000
set_option linter.unusedVariables false
set_option linter.unusedSimpArgs false
namespace Go.SL
open Go.RowKit

/-! ### 8. Values -/
section
variable {P : Program} {Λ : Lay} {n : Nat} {ops all : Array Oper} {Q Q' : Exit → Act → World → Prop} {E E' : Env} {ρ ρ0 ρ' : Gh} {H H' Hk F : Heap} {fuel : Nat} {listed : Array Bool} {rest : List Oper}
theorem WL.val {d : Nat} {op : Op} {ty : TypeId} {ps : String} {af : Array Edge} {g : Option (Nat × Bool)} {v : Value} (hv : VAL P n E ρ H op v) {bx cx : Bool} (hw : wants E all g = some (bx, cx)) [hsm : Same bx cx] (hd : Nat.blt d n = true)
    (k : WL P n all Q rest ((d, v) :: E) ρ H) : WL P n all Q (⟨some d, op, ty, ps, af, g⟩ :: rest) E ρ H :=
  WL.value (o := ⟨some d, op, ty, ps, af, g⟩) hw (fun a w ha s => hv.go _ _ _ _ _ a w ha s) rfl hd k
theorem V.pure (hΛ : OkLay P Λ) {op : Op} {v : Value} (h : peval Λ E op = some v) : VAL P n E ρ H op v := ⟨fun ty ps af g d a w ha s => peval_spec (o := ⟨d, op, ty, ps, af, g⟩) hΛ h ha w⟩
theorem V.load (hΛ : OkLay P Λ) {t : Nat} {x : Operand} {i : TI} (hi : lay Λ t = some i) {b p : Nat} (hx : ev E x = some (.pointer (some ⟨b, p, none⟩))) (cs : List Value) (hc : CellsAt ρ H b p cs) (hl : Nat.beq cs.length i.size = true) {v : Value} (hv : whole i cs = some v) :
    VAL P n E ρ H (.load t x) v := ⟨fun ty ps af g d a w ha s => by
  have := run_loadAt (P := P) (hΛ t i hi) (b := b) (p := p) (cs := cs) (Nat.eq_of_beq_eq_true hl) hv (w := w) fun j u hj => s.cellAt (hc j u hj)
  simp [execOp, ha.ev hx, this]⟩
theorem V.loadO (hΛ : OkLay P Λ) {t : Nat} {x : Operand} {i : TI} (hi : lay Λ t = some i) {b p : Nat} (hx : ev E x = some (.pointer (some ⟨b, p, none⟩))) {cs : List Value} [hc : Has H b cs] {v : Value} (hl : Nat.beq ((cs.drop p).take i.size).length i.size = true)
    (hv : whole i ((cs.drop p).take i.size) = some v) : VAL P n E ρ H (.load t x) v :=
  V.load hΛ hi hx ((cs.drop p).take i.size) (.own hc (by rw [Nat.eq_of_beq_eq_true hl])) hl hv
theorem V.loadR (hΛ : OkLay P Λ) {t : Nat} {x : Operand} {i : TI} (hi : lay Λ t = some i) {b p : Nat} (hx : ev E x = some (.pointer (some ⟨b, p, none⟩))) (cs : List Value) (hc : ρ.cells b p cs) (hl : Nat.beq cs.length i.size = true) {v : Value} (hv : whole i cs = some v) :
    VAL P n E ρ H (.load t x) v := V.load hΛ hi hx cs (.ro hc) hl hv
/-- One cell that is never written. -/
theorem V.load1 (hΛ : OkLay P Λ) {t : Nat} {x : Operand} {i : TI} (hi : lay Λ t = some i) {b p : Nat} (hx : ev E x = some (.pointer (some ⟨b, p, none⟩))) {v : Value} (hc : ρ.cell b p = some v) (hl : Nat.beq 1 i.size = true) (hv : whole i [v] = some v) :
    VAL P n E ρ H (.load t x) v := V.load hΛ hi hx [v] (fun j u hj => by
    have : j = 0 := by
      have := (List.getElem?_eq_some_iff.1 hj).1
      simp at this; exact this
    subst this
    simp only [List.getElem?_cons_zero, Option.some.injEq] at hj
    subst hj
    exact .inl hc) hl hv

theorem V.addi {t t' : Nat} {x y : Operand} {a b : Int} (hx : ev E x = some (.int .i64 a)) (hy : ev E y = some (.int .i64 b)) (h1 : -9223372036854775808 ≤ a + b) (h2 : a + b ≤ 9223372036854775807) :
    VAL P n E ρ H (.binOp .add t x y t') (.int .i64 (a + b)) := ⟨fun ty ps af g d ac w ha s => by
  have : IntKind.i64.wrap (a + b) = a + b := by rw [IntKind.wrap_i64]; omega
  simp [execOp, ha.ev hx, ha.ev hy, eqGuard_add, binOp_add, Op.intArith, this]⟩
theorem V.subi {t t' : Nat} {x y : Operand} {a b : Int} (hx : ev E x = some (.int .i64 a)) (hy : ev E y = some (.int .i64 b)) (h1 : -9223372036854775808 ≤ a - b) (h2 : a - b ≤ 9223372036854775807) :
    VAL P n E ρ H (.binOp .sub t x y t') (.int .i64 (a - b)) := ⟨fun ty ps af g d ac w ha s => by
  have : IntKind.i64.wrap (a - b) = a - b := by rw [IntKind.wrap_i64]; omega
  simp [execOp, ha.ev hx, ha.ev hy, eqGuard_sub, binOp_sub, Op.intArith, this]⟩
theorem V.muli {t t' : Nat} {x y : Operand} {a b : Int} (hx : ev E x = some (.int .i64 a)) (hy : ev E y = some (.int .i64 b)) (h1 : -9223372036854775808 ≤ a * b) (h2 : a * b ≤ 9223372036854775807) :
    VAL P n E ρ H (.binOp .mul t x y t') (.int .i64 (a * b)) := ⟨fun ty ps af g d ac w ha s => by
  have : IntKind.i64.wrap (a * b) = a * b := by rw [IntKind.wrap_i64]; omega
  simp [execOp, ha.ev hx, ha.ev hy, eqGuard_mul, binOp_mul, Op.intArith, this]⟩
theorem V.concat {t t' : Nat} {x y : Operand} {a b : ByteArray} (hx : ev E x = some (.string a)) (hy : ev E y = some (.string b)) (h : a.size + b.size ≤ 9223372036854775807) :
    VAL P n E ρ H (.binOp .add t x y t') (.string (a ++ b)) := ⟨fun ty ps af g d ac w ha s => by
  simp [execOp, ha.ev hx, ha.ev hy, eqGuard_at_string, binOp, Op.stringOp]
  omega⟩
/-- A byte of a string. -/
def bt (s : ByteArray) (k : Nat) : Int := ((s.data.toList.getD k 0).toNat : Int)
theorem bt_range (s : ByteArray) (k : Nat) : 0 ≤ bt s k ∧ bt s k ≤ 255 := by
  unfold bt
  have := (s.data.toList.getD k 0).toNat_lt
  omega
theorem V.byte (hΛ : OkLay P Λ) {t : Nat} {x y : Operand} {s : ByteArray} {kd : IntKind} {j : Int} (hu : undOf Λ t = some .string) (hx : ev E x = some (.string s)) (hy : ev E y = some (.int kd j)) (k : Nat) (hj : j = (k : Int)) (hk : k < s.size) :
    VAL P n E ρ H (.index t x y) (.int .u8 (bt s k)) := ⟨fun ty ps af g d ac w ha st => by
  obtain ⟨i, hi, hu⟩ := undOf_spec hΛ hu
  subst hj
  have h1 : s[k]? = some (s[k]'hk) := by simp [hk]
  have h2 : bt s k = (((s[k]'hk).toNat : Nat) : Int) := by
    unfold bt
    have hk' : k < s.data.toList.length := by simpa using hk
    rw [List.getD_eq_getElem?_getD, List.getElem?_eq_getElem hk']
    rfl
  have h3 : ¬ ((k : Int) < 0) := by omega
  simp [execOp, ha.ev hx, ha.ev hy, Instr.index, asIntOf, run_underlying (hi.string hu), h1, h2, hk]⟩
theorem V.elem (hΛ : OkLay P Λ) {t : Nat} {x y : Operand} {e : TypeId} {ei : TI} (hu : undOf Λ t = some (.slice e)) (he : lay Λ e = some ei) {b p len cap : Nat} {kd : IntKind} {j : Int} (hx : ev E x = some (.slice (some ⟨b, p, none⟩) len cap)) (hy : ev E y = some (.int kd j)) (k : Nat) (hj : j = (k : Int)) (hk : k < len)
    {sz : Nat} (hsz : ei.size = sz) : VAL P n E ρ H (.indexAddr t x y) (.pointer (some ⟨b, p + k * sz, none⟩)) := ⟨fun ty ps af g d ac w ha st => by
  obtain ⟨i, hi, hu⟩ := undOf_spec hΛ hu
  subst hj
  subst hsz
  have h1 := (hΛ e ei he).sizeOf w
  have h2 : ((k : Int) < (len : Int)) := by omega
  simp [execOp, ha.ev hx, ha.ev hy, Instr.indexAt, asIntOf, run_underlying (hi.slice hu), h1, h2, Addr.add_lit, hk]⟩
theorem run_sliceBound {P : Program} {w : World} {kd : IntKind} {j : Int} {k y : Nat} {c : BoundsCode} (hj : j = (k : Int)) (hk : k ≤ y) : (Instr.sliceBound (.int kd j) y c).run P w = .ok k w := by
  subst hj
  have h2 : ((k : Int) ≤ (y : Int)) := by omega
  simp [Instr.sliceBound, asIntOf, hk]
theorem V.subS (hΛ : OkLay P Λ) {t : Nat} {x lo hi : Operand} {s : ByteArray} {kd kd' : IntKind} {j j' : Int} (hu : undOf Λ t = some .string) (hx : ev E x = some (.string s)) (hlo : ev E lo = some (.int kd j)) (hhi : ev E hi = some (.int kd' j')) (l h : Nat) (hj : j = (l : Int)) (hj' : j' = (h : Int)) (hl : l ≤ h) (hh : h ≤ s.size) :
    VAL P n E ρ H (.slice t x (some lo) (some hi) none) (.string (s.extract l h)) := ⟨fun ty ps af g d ac w ha st => by
  obtain ⟨i, hi, hu⟩ := undOf_spec hΛ hu
  simp [execOp, ha.ev hx, ha.ev hlo, ha.ev hhi, Instr.sliceAt, Instr.slice, Instr.sliceBounds, run_underlying (hi.string hu), run_sliceBound hj' hh, run_sliceBound hj hl]⟩
theorem V.subSl (hΛ : OkLay P Λ) {t : Nat} {x lo : Operand} {s : ByteArray} {kd : IntKind} {j : Int} (hu : undOf Λ t = some .string) (hx : ev E x = some (.string s)) (hlo : ev E lo = some (.int kd j)) (l : Nat) (hj : j = (l : Int)) (hl : l ≤ s.size) :
    VAL P n E ρ H (.slice t x (some lo) none none) (.string (s.extract l s.size)) := ⟨fun ty ps af g d ac w ha st => by
  obtain ⟨i, hi, hu⟩ := undOf_spec hΛ hu
  simp [execOp, ha.ev hx, ha.ev hlo, Instr.sliceAt, Instr.slice, Instr.sliceBounds, run_underlying (hi.string hu), run_sliceBound hj hl]⟩
theorem V.subSh (hΛ : OkLay P Λ) {t : Nat} {x hi : Operand} {s : ByteArray} {kd : IntKind} {j : Int} (hu : undOf Λ t = some .string) (hx : ev E x = some (.string s)) (hhi : ev E hi = some (.int kd j)) (h : Nat) (hj : j = (h : Int)) (hh : h ≤ s.size) :
    VAL P n E ρ H (.slice t x none (some hi) none) (.string (s.extract 0 h)) := ⟨fun ty ps af g d ac w ha st => by
  obtain ⟨i, hi, hu⟩ := undOf_spec hΛ hu
  simp [execOp, ha.ev hx, ha.ev hhi, Instr.sliceAt, Instr.slice, Instr.sliceBounds, run_underlying (hi.string hu), run_sliceBound hj hh]⟩
/-- Where a slice's cut begins. -/
def cutA (A : Option Addr) (cap l sz : Nat) : Option Addr := if cap = l then A else A.map (·.add (l * sz))
theorem V.cutV (hΛ : OkLay P Λ) {t : Nat} {x lo hi : Operand} {e : TypeId} {ei : TI} (hu : undOf Λ t = some (.slice e)) (he : lay Λ e = some ei) {A : Option Addr} {len cap : Nat} {kd kd' : IntKind} {j j' : Int} (hx : ev E x = some (.slice A len cap)) (hlo : ev E lo = some (.int kd j)) (hhi : ev E hi = some (.int kd' j'))
    (l h : Nat) (hj : j = (l : Int)) (hj' : j' = (h : Int)) (hl : l ≤ h) (hh : h ≤ cap) : VAL P n E ρ H (.slice t x (some lo) (some hi) none) (.slice (cutA A cap l ei.size) (h - l) (cap - l)) := ⟨fun ty ps af g d ac w ha st => by
  obtain ⟨i, hi, hu⟩ := undOf_spec hΛ hu
  have h1 := (hΛ e ei he).sizeOf w
  simp [execOp, ha.ev hx, ha.ev hlo, ha.ev hhi, Instr.sliceAt, Instr.slice, Instr.sliceBounds, run_underlying (hi.slice hu), run_sliceBound hj' hh, run_sliceBound hj hl, h1, cutA]⟩
theorem V.cutVl (hΛ : OkLay P Λ) {t : Nat} {x lo : Operand} {e : TypeId} {ei : TI} (hu : undOf Λ t = some (.slice e)) (he : lay Λ e = some ei) {A : Option Addr} {len cap : Nat} {kd : IntKind} {j : Int} (hx : ev E x = some (.slice A len cap)) (hlo : ev E lo = some (.int kd j))
    (l : Nat) (hj : j = (l : Int)) (hl : l ≤ len) : VAL P n E ρ H (.slice t x (some lo) none none) (.slice (cutA A cap l ei.size) (len - l) (cap - l)) := ⟨fun ty ps af g d ac w ha st => by
  obtain ⟨i, hi, hu⟩ := undOf_spec hΛ hu
  have h1 := (hΛ e ei he).sizeOf w
  simp [execOp, ha.ev hx, ha.ev hlo, Instr.sliceAt, Instr.slice, Instr.sliceBounds, run_underlying (hi.slice hu), run_sliceBound hj hl, h1, cutA]⟩
theorem V.cutVh (hΛ : OkLay P Λ) {t : Nat} {x hi : Operand} {e : TypeId} {ei : TI} (hu : undOf Λ t = some (.slice e)) (he : lay Λ e = some ei) {A : Option Addr} {len cap : Nat} {kd : IntKind} {j : Int} (hx : ev E x = some (.slice A len cap)) (hhi : ev E hi = some (.int kd j))
    (h : Nat) (hj : j = (h : Int)) (hh : h ≤ cap) : VAL P n E ρ H (.slice t x none (some hi) none) (.slice A h cap) := ⟨fun ty ps af g d ac w ha st => by
  obtain ⟨i, hi, hu⟩ := undOf_spec hΛ hu
  have h1 := (hΛ e ei he).sizeOf w
  simp [execOp, ha.ev hx, ha.ev hhi, Instr.sliceAt, Instr.slice, Instr.sliceBounds, run_underlying (hi.slice hu), run_sliceBound hj hh, h1, cutA]
  intro h0
  cases A <;> simp [Addr.add]⟩
/-! Joins -/
structure Meet {σ : Type} (n : Nat) (ρ0 : Gh) (I : Gh → σ → Prop) (Ef : σ → Env) (Hf : σ → Heap) (a : Act) (w : World) : Prop where
  get : ∃ s ρ', ρ0 ≤ ρ' ∧ I ρ' s ∧ Ag n (Ef s) a ∧ Sat ρ' (Hf s) w
theorem WC.cut {σ : Type} (I : Gh → σ → Prop) (Ef : σ → Env) (Hf : σ → Heap) {x y : Code} (hx : WC P n x (Exit.then (Meet n ρ I Ef Hf) Q) E ρ H)
    (hy : ∀ s ρ', ρ ≤ ρ' → I ρ' s → WC P n y Q (Ef s) ρ' (Hf s)) : WC P n (x.seq y) Q E ρ H := ⟨fun a w ha s =>
  wp_seq (wp_mono (hx.go a w ha s) fun e a' w' hq => by
    cases e with
    | normal => obtain ⟨t, ρ', hle, hI, hA, hS⟩ := Meet.get hq; exact (hy t ρ' hle hI).go a' w' hA hS
    | _ => exact hq)⟩
theorem WX.meet {σ : Type} {I : Gh → σ → Prop} {Ef : σ → Env} {Hf : σ → Heap} {ρ0 : Gh} (s : σ) (hle : ρ0 ≤ ρ) (hI : I ρ s) (hE : Sub (Ef s) E) [hH : HIn (Hf s) H] :
    WX n .normal (Exit.then (Meet n ρ0 I Ef Hf) Q) E ρ H := ⟨fun a w ha hs => ⟨s, ρ, hle, hI, ha.sub hE, hs.sub hH⟩⟩
/-- A guard that isn't known: both ways. -/
def guardSlot (all : Array Oper) : Option (Nat × Bool) → Option Nat
  | some (j, _) => match all[j]? with
    | some o => o.dst
    | none => none
  | none => none
theorem WL.gsplit {o : Oper} {d : Nat} {b : Bool} (hg : guardSlot all o.guard = some d) (hb : find E d = some (.bool b)) (ht : b = true → WL P n all Q (o :: rest) ((d, .bool true) :: E) ρ H) (hf : b = false → WL P n all Q (o :: rest) ((d, .bool false) :: E) ρ H) :
    WL P n all Q (o :: rest) E ρ H := WL.split d hb ht hf
theorem WD.gsplit {D : List Nat} (d : Nat) {b : Bool} (hb : find E d = some (.bool b)) (ht : b = true → WD P n ops Q ρ0 Hk D fuel listed ((d, .bool true) :: E) ρ H) (hf : b = false → WD P n ops Q ρ0 Hk D fuel listed ((d, .bool false) :: E) ρ H) :
    WD P n ops Q ρ0 Hk D fuel listed E ρ H := by
  refine ⟨fun hle a w ha s => ?_⟩
  cases hbb : b with
  | true => exact (ht hbb).go hle a w ⟨ha.size, ha.defers, fun t v h => by
      rw [find_cons] at h
      by_cases hk : d = t
      · subst hk; rw [if_pos rfl] at h; injection h with h; subst h; exact ha.at_ d _ (by rw [hb, hbb])
      · rw [if_neg hk] at h; exact ha.at_ t v h⟩ s
  | false => exact (hf hbb).go hle a w ⟨ha.size, ha.defers, fun t v h => by
      rw [find_cons] at h
      by_cases hk : d = t
      · subst hk; rw [if_pos rfl] at h; injection h with h; subst h; exact ha.at_ d _ (by rw [hb, hbb])
      · rw [if_neg hk] at h; exact ha.at_ t v h⟩ s
end
end Go.SL
