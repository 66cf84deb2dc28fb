/- Operations that make one new block; structs built. -/
import Derived.Test.YtjbcafbeafhdpaaGreatDoorD5
set_option maxRecDepth 10000
set_option linter.unusedVariables false
set_option linter.unusedSimpArgs false
namespace Go.D
open Go.SL Go.RowKit
section
variable {P : Program} {Λ : Tys} {Λs : Lay} {σ : Sg} {G : Gh} {n : Nat} {E : DE} {s : St} {a : Act} {w : World}
theorem setD_val : ∀ (vs : List DV) (Vs : List Value) (cs : List DV) (Cs : List Value) (p : Nat), vals σ vs = some Vs → vals σ cs = some Cs → vals σ (setD cs p vs) = some (setL Cs p Vs)
  | [], Vs, cs, Cs, p, h, k => by simp only [vals, Option.some.injEq] at h; subst h; exact k
  | v :: vs, Vs, cs, Cs, p, h, k => by
    obtain ⟨V, R, h1, h2, rfl⟩ := vals_cons h
    refine setD_val vs R _ _ (p + 1) h2 ?_
    refine vals_of_get (by simp [vals_length k]) fun j u e => ?_
    rw [List.getElem?_set] at e ⊢
    by_cases hj : p = j
    · rw [if_pos hj] at e ⊢
      rw [vals_length k]
      split at e
      · rename_i hp
        simp only [Option.some.injEq] at e
        subst e
        exact ⟨V, h1, by rw [if_pos hp]⟩
      · cases e
    · rw [if_neg hj] at e ⊢
      exact vals_get j k e
theorem setD_length : ∀ (vs cs : List DV) (p : Nat), (setD cs p vs).length = cs.length
  | [], _, _ => rfl
  | v :: vs, cs, p => by simp [setD, setD_length vs]
/-- Parts, renamed. -/
def partsR (σ : Sg) : List (Nat × DV) → List (Nat × Value) → Prop
  | [], [] => True
  | (i, v) :: r, (j, V) :: s => i = j ∧ val σ v = some V ∧ partsR σ r s
  | _, _ => False
theorem fill_val (place : Nat → Option (Nat × Nat)) : ∀ (ps : List (Nat × DV)) (Ps : List (Nat × Value)) (cs : List DV) (Cs : List Value) (out : List DV), partsR σ ps Ps → vals σ cs = some Cs → fillD place cs ps = some out → ∃ Out, vals σ out = some Out ∧ fillL place Cs Ps = some Out
  | [], [], cs, Cs, out, _, k, h => by simp only [fillD, Option.some.injEq] at h; subst h; exact ⟨Cs, k, rfl⟩
  | (i, v) :: r, (j, V) :: q, cs, Cs, out, hp, k, h => by
    obtain ⟨rfl, hv, hr⟩ := hp
    simp only [fillD] at h
    split at h
    · cases h
    · rename_i off sz hpl
      have hc := val_cells hv
      have hl := vals_length hc
      cases hb : (Nat.beq v.cells.length sz && Nat.ble (off + v.cells.length) cs.length) with
      | false => rw [hb] at h; cases h
      | true =>
        rw [hb] at h
        simp only [cond_true] at h
        obtain ⟨Out, h1, h2⟩ := fill_val place r q _ _ out hr (setD_val _ _ _ _ off hc k) h
        refine ⟨Out, h1, ?_⟩
        simp only [fillL, hpl]
        rw [hl, vals_length k, hb]
        exact h2
  | [], _ :: _, _, _, _, hp, _, _ => hp.elim
  | _ :: _, [], _, _, _, hp, _, _ => by cases hp
theorem EnvR.devP (h : EnvR σ n E a) : ∀ {ps : List (Nat × Operand)} {vs : List (Nat × DV)}, D.devP E ps = some vs → ∃ Vs, partsR σ vs Vs ∧ evP (full a n) ps = some Vs ∧ ps.map (fun p => (p.1, a.eval p.2)) = Vs
  | [], vs, hx => by simp only [D.devP, Option.some.injEq] at hx; subst hx; exact ⟨[], trivial, rfl, rfl⟩
  | (i, x) :: r, vs, hx => by
    simp only [D.devP] at hx
    split at hx
    · rename_i v us hv hus
      simp only [Option.some.injEq] at hx
      subst hx
      obtain ⟨V, h1, h2, h3⟩ := h.dev hv
      obtain ⟨Vs, h4, h5, h6⟩ := h.devP hus
      exact ⟨(i, V) :: Vs, ⟨rfl, h1, h4⟩, by simp [evP, h2, h5], by simp [h3, h6]⟩
    · cases hx
theorem placesD_L (hT : TysOk P Λ Λs) : ∀ (l : List (TypeId × Nat)) (ps : List (Nat × Nat)), placesD Λ l = some ps → placesL Λs l = some ps
  | [], ps, h => h
  | (t, o) :: r, ps, h => by
    simp only [placesD] at h
    split at h
    · rename_i i qs hi hq
      simp only [placesL, ← hT.get, hi, placesD_L hT r qs hq]
      exact h
    · cases h
theorem build_sound (hT : TysOk P Λ Λs) (hE : EnvR σ n E a) {t : Nat} {ps : Array (Nat × Operand)} {v : DV} (h : buildD Λ E t ps.toList = some v) {o : Oper} (ho : o.op = .build t ps) : ∃ V, val σ v = some V ∧ (execOp a.eval o).run P w = .ok (.value V) w := by
  unfold buildD at h
  split at h
  · rename_i fs sz by_ z hi
    split at h
    · rename_i pl vs zs hpl hvs hzs
      split at h
      · rename_i cs hf
        simp only [Option.some.injEq] at h
        subst h
        obtain ⟨Vs, h1, h2, h3⟩ := hE.devP hvs
        obtain ⟨Out, h4, h5⟩ := fill_val (fun (k : Nat) => pl[k]?) vs Vs zs z cs h1 (ofCells_val hzs) hf
        refine ⟨.agg Out.toArray, by simp [val, h4], ?_⟩
        have hl : lay Λs t = some ⟨.struct fs, sz, by_, z⟩ := by rw [← hT.get]; exact hi
        have := (V.build (P := P) (n := n) (E := full a n) (ρ := gh0 w) (H := []) hT.ok hl (l := fs) rfl (placesD_L hT _ _ hpl) (ps := ps) h2 h5).go o.type o.pos o.after o.guard o.dst a w hE.ag (sat0 w)
        rw [show o = ⟨o.dst, .build t ps, o.type, o.pos, o.after, o.guard⟩ by rw [← ho]]
        exact this
      · cases h
    · cases h
  · cases h
theorem repD_flat (k : Nat) (z : List DV) (Z : List Value) (h : vals σ z = some Z) : vals σ (repD k z) = some (List.replicate k Z).flatten := by
  induction k with
  | zero => rfl
  | succ k ih => simp only [repD, List.replicate_succ, List.flatten_cons]; exact vals_append h ih
theorem run_buildSlice0 (hΛ : OkLay P Λs) {t len : Nat} {e : TypeId} {ei : TI} (hu : undOf Λs t = some (.slice e)) (he : lay Λs e = some ei) {vs : List (Nat × Value)} {sz : Nat} (hsz : ei.size = sz) (hz : Nat.beq ei.zero.length sz = true) (hpos : Nat.blt 0 sz = true) (hbig : Nat.ble (len * sz) 16777216 = true)
    {cs : List Value} (hf : fillL (fun k => some (k * sz, sz)) (List.replicate len ei.zero).flatten vs = some cs) (w : World) {ps : Array (Nat × Value)} (hps : ps.toList = vs) :
    (Instr.buildSlice t len ps).run P w = .ok (.slice (some ⟨w.heap.size, 0, none⟩) len len) (w.alloc (.cells cs.toArray e)) := by
  by_cases hl0 : len = 0
  · subst hl0
    obtain ⟨i, hi, hu⟩ := undOf_spec hΛ hu
    have h1 := (hΛ e ei he).sizeOf w
    simp only [List.replicate_zero, List.flatten_nil] at hf
    have hfill := fill_of (fun k => some (k * sz, sz)) vs _ cs hf
    subst hsz
    simp only [Instr.buildSlice, Sem.run_bind, run_underlying (hi.slice hu), Result.andThen_ok, h1]
    have hr0 : Array.range 0 = #[] := rfl
    simp [hps, newRow, hr0, hfill]
  · exact run_buildSlice hΛ hu he hsz hz hpos (by simp [Nat.blt_eq]; omega) hbig hf w hps
/-- The new block's value, whatever its place. -/
def newV (v : DV) (nx : Nat) (b : Nat) (V : Value) : Prop := ∀ (σ : Sg) (L : Loc), σ nx = some L → L.b = b → L.base = 0 → val σ v = some V
theorem alloc_sound (hT : TysOk P Λ Λs) (hE : EnvR σ n E a) {o : Oper} {nx : Nat} {v : DV} {ob : DObj} (h : allocD Λ E nx o.op = some (v, ob)) :
    ∃ t cs Cs V, ob = .cells t 0 cs ∧ vals σ cs = some Cs ∧ newV v nx w.heap.size V ∧ (execOp a.eval o).run P w = .ok (.value V) (w.alloc (.cells Cs.toArray t)) := by
  unfold execOp
  generalize o.op = op at *
  cases op <;> simp only [allocD] at h <;> try (cases h; done)
  case alloc t =>
    split at h
    · rename_i i hi
      split at h
      · rename_i zs hzs
        simp only [Option.some.injEq, Prod.mk.injEq] at h
        obtain ⟨rfl, rfl⟩ := h
        obtain ⟨z, hz', hzl⟩ := (hT.ti hi).zeroValue w
        have hzc : z.cells = i.zero.toArray := by apply Array.ext'; simpa using hzl
        refine ⟨t, zs, i.zero, .pointer (some ⟨w.heap.size, 0, none⟩), rfl, ofCells_val hzs, fun σ L h1 h2 h3 => by simp [val, h1, h2, h3], ?_⟩
        simp [Instr.alloc, hz', newVar, newRow, hzc]
      · cases h
    · cases h
  case box t x =>
    split at h
    · rename_i u hx
      simp only [Option.some.injEq, Prod.mk.injEq] at h
      obtain ⟨rfl, rfl⟩ := h
      obtain ⟨V, h1, _, h3⟩ := hE.dev hx
      refine ⟨t, u.cells, V.cells.toList, .pointer (some ⟨w.heap.size, 0, none⟩), rfl, val_cells h1, fun σ L h1 h2 h3 => by simp [val, h1, h2, h3], ?_⟩
      simp [h3, Instr.box, newVar, newRow]
    · cases h
  case buildSlice t len ps =>
    split at h
    · rename_i e hu
      split at h
      · rename_i ei hei
        split at h
        · rename_i vs zs hvs hzs
          cases hb : (Nat.blt 0 ei.size && Nat.ble (len * ei.size) 16777216 && Nat.beq zs.length ei.size) with
          | false => rw [hb] at h; cases h
          | true =>
            rw [hb] at h
            simp only [cond_true] at h
            simp only [Bool.and_eq_true] at hb
            obtain ⟨⟨hb1, hb2⟩, hb3⟩ := hb
            split at h
            · rename_i cs hf
              simp only [Option.some.injEq, Prod.mk.injEq] at h
              obtain ⟨rfl, rfl⟩ := h
              obtain ⟨Vs, h1, h2, h3⟩ := hE.devP hvs
              have hzv := ofCells_val (σ := σ) hzs
              obtain ⟨Out, h4, h5⟩ := fill_val (fun k => some (k * ei.size, ei.size)) vs Vs _ _ cs h1 (repD_flat len zs ei.zero hzv) hf
              have e1 : (ps.map fun (p : Nat × Operand) => (p.1, a.eval p.2)).toList = Vs := by simpa using h3
              have e2 := run_buildSlice0 (P := P) hT.ok (by rw [← tyUnd_undOf hT]; exact hu) (by rw [← hT.get]; exact hei) rfl (by rw [vals_length hzv]; exact hb3) hb1 hb2 h5 w e1
              refine ⟨e, cs, Out, .slice (some ⟨w.heap.size, 0, none⟩) len len, rfl, h4, fun σ L g1 g2 g3 => ?_, ?_⟩
              · rw [val_slice_of g1 (by simp [Cap.at_])]; simp [Cap.off, Cap.at_, g2, g3]
              · have e3 : (ps.map fun x => match x with | (i, x) => (i, a.eval x)) = ps.map fun (p : Nat × Operand) => (p.1, a.eval p.2) := rfl
                simp only [Sem.run_bind, e3, e2]
                simp
            · cases h
        · cases h
      · cases h
    · cases h
  case makeSlice t l c =>
    split at h
    · rename_i e kl l' kc c' hu hl hc
      split at h
      · rename_i ei hei
        split at h
        · rename_i zs hzs
          cases hb : (Nat.ble l' c' && Nat.ble c' 1048576 && Nat.ble ei.bytes 128 && Nat.blt 0 ei.size && Nat.beq zs.length ei.size) with
          | false => rw [hb] at h; cases h
          | true =>
            rw [hb] at h
            simp only [cond_true, Option.some.injEq, Prod.mk.injEq] at h
            obtain ⟨rfl, rfl⟩ := h
            simp only [Bool.and_eq_true, Nat.ble_eq, Nat.blt_eq] at hb
            obtain ⟨⟨⟨⟨hb1, hb2⟩, hb3⟩, hb4⟩, hb5⟩ := hb
            have hb5 := Nat.eq_of_beq_eq_true hb5
            obtain ⟨Lv, k1, _, k3⟩ := hE.dev hl
            obtain ⟨Cv, k4, _, k6⟩ := hE.dev hc
            obtain ⟨i, hi, hiu⟩ := tyUnd_spec hT hu
            obtain ⟨x, z, hx, hx1, hx2, hx3, hx4⟩ := (hT.ti hei).infos
            have hzv := ofCells_val (σ := σ) hzs
            have hzl : ei.zero.length = ei.size := by rw [vals_length hzv]; exact hb5
            have hmul : x.bytes * c' ≤ 281474976710656 := by
              rw [hx2]
              have : ei.bytes * c' ≤ 128 * 1048576 := Nat.mul_le_mul hb3 hb2
              omega
            have hrun := run_make (P := P) w t e x z (hi.slice hiu) hx hx3 kl kc (Int.ofNat l') (Int.ofNat c') (Int.natCast_nonneg _) (Int.ofNat_le.2 hb1) (by
              rw [show ((x.bytes : Int) * Int.ofNat c') = ((x.bytes * c' : Nat) : Int) from (Int.natCast_mul _ _).symm]
              generalize x.bytes * c' = q at hmul ⊢
              omega) (by simp; omega)
            refine ⟨e, repD c' zs, (List.replicate c' ei.zero).flatten, .slice (some ⟨w.heap.size, 0, none⟩) l' c', rfl, repD_flat c' zs ei.zero hzv, fun σ L g1 g2 g3 => ?_, ?_⟩
            · rw [val_slice_of g1 (show l' ≤ Cap.at_ L (.known c') from hb1)]
              show some (Value.slice (some ⟨L.b, L.base + 0, none⟩) l' c') = _
              rw [g2, g3]
            · have hzc : z.cells = ei.zero.toArray := by apply Array.ext'; simpa using hx4
              have hm := made_rep ei.zero c' (by omega)
              have e5 : madeCells z.cells ((Int.ofNat c').toNat * x.size) = ((List.replicate c' ei.zero).flatten).toArray := by
                rw [← hm, hx1, hzc, hzl]
                rfl
              rw [e5] at hrun
              simp [k3, k6, val_int k1, val_int k4] at hrun ⊢
              rw [hrun]
              simp
        · cases h
      · cases h
    · cases h
end
end Go.D
