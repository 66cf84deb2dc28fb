/- Operations that leave memory alone: all of them. -/
import Derived.Test.YtjbcafbeafhdpaaGreatDoorD4
set_option maxRecDepth 10000
set_option linter.unusedVariables false
set_option linter.unusedSimpArgs false
namespace Go.D
open Go.SL Go.RowKit
section
variable {P : Program} {Λ : Tys} {Λs : Lay} {σ : Sg} {G : Gh} {n : Nat} {E : DE} {s : St} {a : Act} {w : World}
theorem val_int {k : IntKind} {m : Int} {V : Value} (h : val σ (.int k m) = some V) : V = .int k m := by simp only [val, Option.some.injEq] at h; exact h.symm
theorem val_bool {b : Bool} {V : Value} (h : val σ (.bool b) = some V) : V = .bool b := by simp only [val, Option.some.injEq] at h; exact h.symm
theorem val_str {b : List UInt8} {V : Value} (h : val σ (.str b) = some V) : V = .string ⟨b.toArray⟩ := by simp only [val, Option.some.injEq] at h; exact h.symm
theorem val_ptr {b o : Nat} {V : Value} (h : val σ (.ptr (some (b, o))) = some V) : ∃ L, σ b = some L ∧ V = .pointer (some ⟨L.b, L.base + o, none⟩) := by
  simp only [val] at h
  split at h
  · rename_i L hL; simp only [Option.some.injEq] at h; exact ⟨L, hL, h.symm⟩
  · cases h
theorem val_agg {cs : List DV} {V : Value} (h : val σ (.agg cs) = some V) : ∃ Cs, vals σ cs = some Cs ∧ V = .agg Cs.toArray := by
  simp only [val] at h
  split at h
  · rename_i C hC; simp only [Option.some.injEq] at h; exact ⟨C, hC, h.symm⟩
  · cases h
theorem val_tuple {cs : List DV} {V : Value} (h : val σ (.tuple cs) = some V) : ∃ Cs, vals σ cs = some Cs ∧ V = .tuple Cs.toArray := by
  simp only [val] at h
  split at h
  · rename_i C hC; simp only [Option.some.injEq] at h; exact ⟨C, hC, h.symm⟩
  · cases h
theorem val_slice {b o m : Nat} {c : Cap} {V : Value} (h : val σ (.slice (some (b, o)) m c) = some V) : ∃ L, σ b = some L ∧ m ≤ c.at_ L ∧ V = .slice (some ⟨L.b, L.base + c.off L o, none⟩) m (c.at_ L) := by
  simp only [val] at h
  split at h
  · rename_i L hL
    split at h
    · rename_i hm; simp only [Option.some.injEq] at h; exact ⟨L, hL, hm, h.symm⟩
    · cases h
  · cases h
theorem val_slice_of {b o m : Nat} {c : Cap} {L : Loc} (hL : σ b = some L) (hm : m ≤ c.at_ L) : val σ (.slice (some (b, o)) m c) = some (.slice (some ⟨L.b, L.base + c.off L o, none⟩) m (c.at_ L)) := by
  simp only [val, hL]; rw [if_pos hm]
theorem val_slice_nil {m : Nat} {c : Cap} {V : Value} (h : val σ (.slice none m c) = some V) : ∃ k, c = .known k ∧ m ≤ k ∧ V = .slice none m k := by
  cases c with
  | known k =>
    simp only [val] at h
    split at h
    · rename_i hm; simp only [Option.some.injEq] at h; exact ⟨k, rfl, hm, h.symm⟩
    · cases h
  | rest k alt => simp [val] at h
theorem val_sliceAny {A : Option (Nat × Nat)} {m : Nat} {c : Cap} {V : Value} (h : val σ (.slice A m c) = some V) : ∃ q k, V = .slice q m k := by
  cases A with
  | none => obtain ⟨k, _, _, rfl⟩ := val_slice_nil h; exact ⟨_, _, rfl⟩
  | some A => obtain ⟨b, o⟩ := A; obtain ⟨L, _, _, rfl⟩ := val_slice h; exact ⟨_, _, rfl⟩
theorem run_bounds {isS : Bool} {len cap : Nat} {lo hi : Option Operand} {l h : Nat} (hE : EnvR σ n E a) (hl : boundD E 0 lo = some l) (hh : boundD E len hi = some h) (h1 : l ≤ h) (h2 : h ≤ len) (h3 : len ≤ cap) :
    (Instr.sliceBounds isS len cap (lo.map a.eval) (hi.map a.eval) none).run P w = .ok (l, h, cap) w := by
  have bd : ∀ (x : Operand) (k y : Nat) (c : BoundsCode), boundD E 0 (some x) = some k → k ≤ y → (Instr.sliceBound (a.eval x) y c).run P w = .ok k w := by
    intro x k y c hx hk
    simp only [boundD] at hx
    split at hx
    · rename_i kd m hd
      simp only [Option.some.injEq] at hx
      subst hx
      obtain ⟨V, hV, _, hev⟩ := hE.dev hd
      rw [hev, val_int hV]
      exact SL.run_sliceBound rfl hk
    · cases hx
  have bd0 : ∀ (x : Operand), boundD E len (some x) = boundD E 0 (some x) := fun x => rfl
  cases lo with
  | none =>
    simp only [boundD, Option.some.injEq] at hl
    subst hl
    cases hi with
    | none =>
      simp only [boundD, Option.some.injEq] at hh
      subst hh
      simp [Instr.sliceBounds]
    | some y =>
      rw [bd0] at hh
      have := bd y h cap (if isS then .sliceAcap else .sliceAlen) hh (by omega)
      simp [Instr.sliceBounds, this]
  | some x =>
    cases hi with
    | none =>
      simp only [boundD, Option.some.injEq] at hh
      subst hh
      have := bd x l len .sliceB hl h1
      simp [Instr.sliceBounds, this]
    | some y =>
      rw [bd0] at hh
      have g1 := bd y h cap (if isS then .sliceAcap else .sliceAlen) hh (by omega)
      have g2 := bd x l h .sliceB hl h1
      simp [Instr.sliceBounds, g1, g2]
theorem usd_nil (ats : Array TypeId) (ty : TypeId) (m c : Nat) : Builtin.unsafeSliceData_ ats ty #[.slice none m c] = pure (.pointer none) := rfl
theorem usd_some (ats : Array TypeId) (ty : TypeId) (A : Addr) (m c : Nat) (hc : c ≠ 0) : Builtin.unsafeSliceData_ ats ty #[.slice (some A) m c] = pure (.pointer (some A)) := by
  obtain ⟨c', rfl⟩ : ∃ c', c = c' + 1 := ⟨c - 1, by omega⟩
  rfl
theorem min_run (k : IntKind) (x y : Int) (k' : IntKind) : (Builtin.min2 (.int k x) (.int k' y)).run P w = .ok (.int k (if y < x then y else x)) w := by simp [Builtin.min2]
theorem max_run (k : IntKind) (x y : Int) (k' : IntKind) : (Builtin.max2 (.int k x) (.int k' y)).run P w = .ok (.int k (if x < y then y else x)) w := by simp [Builtin.max2]
theorem toArray_extract {α : Type} (l : List α) (i j : Nat) : (l.toArray.extract i (i + j)) = ((l.drop i).take j).toArray := by
  apply Array.ext'
  simp [List.extract]
theorem quiet_sound (hT : TysOk P Λ Λs) (hE : EnvR σ n E a) (hR : Rel G σ s w) {o : Oper} {v : DV} (h : quietD Λ E s.h o.op = some v) : ∃ V, val σ v = some V ∧ (execOp a.eval o).run P w = .ok (.value V) w := by
  unfold execOp
  generalize o.op = op at *
  cases op <;> simp only [quietD] at h <;> try (cases h; done)
  case move x => obtain ⟨V, h1, _, h3⟩ := hE.dev h; exact ⟨V, h1, by simp [h3]⟩
  case assign x => obtain ⟨V, h1, _, h3⟩ := hE.dev h; exact ⟨V, h1, by simp [h3]⟩
  case pick c x y =>
    split at h
    · rename_i hc
      obtain ⟨C, hC, _, hc3⟩ := hE.dev hc
      obtain ⟨V, h1, _, h3⟩ := hE.dev h
      exact ⟨V, h1, by simp [hc3, val_bool hC, h3, asBool]⟩
    · rename_i hc
      obtain ⟨C, hC, _, hc3⟩ := hE.dev hc
      obtain ⟨V, h1, _, h3⟩ := hE.dev h
      exact ⟨V, h1, by simp [hc3, val_bool hC, h3, asBool]⟩
    · cases h
  case nilCheck x =>
    split at h
    · rename_i q hx
      simp only [Option.some.injEq] at h; subst h
      obtain ⟨V, h1, _, h3⟩ := hE.dev hx
      obtain ⟨b, o⟩ := q
      obtain ⟨L, hL, rfl⟩ := val_ptr h1
      exact ⟨_, h1, by simp [h3]⟩
    · cases h
  case fieldAddr t x i =>
    split at h
    · rename_i b o hx
      split at h
      · rename_i fi off hf
        cases hz : Nat.beq fi.size 0 with
        | true => rw [hz] at h; cases h
        | false =>
          rw [hz] at h
          simp only [cond_false, Option.some.injEq] at h
          subst h
          have hne : fi.size ≠ 0 := fun e => by rw [e] at hz; cases hz
          obtain ⟨V, h1, _, h3⟩ := hE.dev hx
          obtain ⟨L, hL, rfl⟩ := val_ptr h1
          obtain ⟨fs, f, g1, g2, g3, g4⟩ := fieldOff_spec hT.ok (fieldD_fieldOff hT hf)
          have hr := g4.sizeOf w
          refine ⟨.pointer (some ⟨L.b, L.base + (o + off), none⟩), by simp [val, hL], ?_⟩
          simp [h3, Instr.fieldAt, run_underlying g1, g2, Instr.sureAddr, fieldPlace, hr, hne, g3, Addr.add_lit, Nat.add_assoc]
      · cases h
    · cases h
  case field t x i =>
    split at h
    · rename_i cs hx
      split at h
      · rename_i fi off hf
        obtain ⟨V, h1, _, h3⟩ := hE.dev hx
        obtain ⟨Cs, hCs, rfl⟩ := val_agg h1
        obtain ⟨fs, f, g1, g2, g3, g4⟩ := fieldOff_spec hT.ok (fieldD_fieldOff hT hf)
        by_cases ho : fi.und = .other
        · rw [ho] at h; cases h
        · have hr := g4.sizeOf w
          have hg := g4.isAgg ho w
          split at h
          · exact absurd (by assumption) ho
          · rename_i l hl
            simp only [Option.some.injEq] at h
            subst h
            have : fi.agg = true := by simp [TI.agg, hl]
            rw [this] at hg
            have hv : vals σ ((cs.drop off).take fi.size) = some ((Cs.drop off).take fi.size) := vals_take (vals_drop hCs off) fi.size
            refine ⟨.agg ((Cs.drop off).take fi.size).toArray, by simp [val, hv], ?_⟩
            have e := toArray_extract Cs off fi.size
            simp only [List.extract_toArray] at e
            simp [h3, Instr.field, run_underlying g1, g2, asAgg, part, hg, hr, g3, List.extract]
          · rename_i hns _
            have : fi.agg = false := by unfold TI.agg; split <;> simp_all
            rw [this] at hg
            obtain ⟨V, k1, k2⟩ := vals_get _ hCs h
            exact ⟨V, k1, by simp [h3, Instr.field, run_underlying g1, g2, asAgg, part, hg, hr, g3, k2]⟩
      · cases h
    · cases h
  case extract x i =>
    split at h
    · rename_i vs hx
      obtain ⟨V, h1, _, h3⟩ := hE.dev hx
      obtain ⟨Cs, hCs, rfl⟩ := val_tuple h1
      obtain ⟨V, k1, k2⟩ := vals_get _ hCs h
      exact ⟨V, k1, by simp [h3, Instr.extract, k2]⟩
    · cases h
  case unOp op t x =>
    split at h
    · rename_i b hx
      simp only [Option.some.injEq] at h; subst h
      obtain ⟨V, h1, _, h3⟩ := hE.dev hx
      exact ⟨.bool (!b), rfl, by simp [h3, val_bool h1, Op.unary]⟩
    · rename_i k m hx
      simp only [Option.some.injEq] at h; subst h
      obtain ⟨V, h1, _, h3⟩ := hE.dev hx
      exact ⟨.int k (k.wrap (0 - m)), by simp [val, dwrap_eq], by simp [h3, val_int h1, Op.unary, Op.intArith]⟩
    · cases h
  case binOp op t x y t2 =>
    split at h
    · rename_i u v' hx hy
      obtain ⟨X, hX, _, hx3⟩ := hE.dev hx
      obtain ⟨Y, hY, _, hy3⟩ := hE.dev hy
      obtain ⟨V, k1, k2⟩ := dbin_run (P := P) (w := w) hT h hX hY x y
      refine ⟨V, k1, ?_⟩
      simp only [hx3, hy3]
      simp only [Sem.run_bind] at k2 ⊢
      rw [k2]
      simp
    · cases h
  case convert s' t x =>
    split at h
    · rename_i k' m hx
      split at h
      · rename_i i j hi hj
        split at h
        · rename_i k hk
          simp only [Option.some.injEq] at h
          subst h
          obtain ⟨V, h1, _, h3⟩ := hE.dev hx
          obtain ⟨d, hd, _⟩ := (hT.ti hi).desc
          have hd2 := (hT.ti hj).int hk
          refine ⟨.int k (k.wrap m), by simp [val, dwrap_eq], ?_⟩
          simp [h3, val_int h1, convert, run_underlying hd, run_underlying hd2, Conv.intToInt]
        · cases h
      · cases h
    · rename_i b hx
      split at h
      · rename_i h1 h2
        simp only [Option.some.injEq] at h
        subst h
        obtain ⟨V, k1, _, k3⟩ := hE.dev hx
        obtain ⟨i, hi, hu⟩ := tyUnd_spec hT h1
        obtain ⟨j, hj, hv⟩ := tyUnd_spec hT h2
        refine ⟨V, k1, ?_⟩
        simp [k3, val_str k1, convert, run_underlying (hi.string hu), run_underlying (hj.string hv)]
      · cases h
    · cases h
  case makeFunc fn f c =>
    split at h
    · rename_i g
      split at h
      · rename_i vs us hf hc
        simp only [Option.some.injEq] at h
        subst h
        obtain ⟨Vs, hVs, _, e1⟩ := hE.devs hf
        obtain ⟨Us, hUs, _, e2⟩ := hE.devs hc
        have e1' : f.map a.eval = Vs.toArray := by apply Array.ext'; simpa using e1
        have e2' : c.map a.eval = Us.toArray := by apply Array.ext'; simpa using e2
        exact ⟨.func (.func g) Vs.toArray Us.toArray, by simp [val, hVs, hUs], by simp [Instr.makeFunc, e1', e2']⟩
      · cases h
    · cases h
  case load t x =>
    split at h
    · rename_i b o i hx hi
      split at h
      · rename_i cs hcs
        obtain ⟨V, h1, _, h3⟩ := hE.dev hx
        obtain ⟨L, hL, rfl⟩ := val_ptr h1
        obtain ⟨L', Cs, hL', hCs, hlen, hcell⟩ := hR.cellsAt hcs
        rw [hL] at hL'; injection hL' with hL'; subst hL'
        obtain ⟨V, k1, k2⟩ := whole_val hCs h
        refine ⟨V, k1, ?_⟩
        have := run_loadAt (P := P) (hT.ti hi) (b := L.b) (p := L.base + o) (cs := Cs) hlen k2 (w := w) hcell
        simp [h3, this]
      · cases h
    · cases h
  case index t x y =>
    split at h
    · rename_i str kd k hx hy hu
      split at h
      · rename_i c hc
        simp only [Option.some.injEq] at h
        subst h
        obtain ⟨X, h1, _, h3⟩ := hE.dev hx
        obtain ⟨Y, h4, _, h6⟩ := hE.dev hy
        obtain ⟨i, hi, hiu⟩ := tyUnd_spec hT hu
        refine ⟨_, rfl, ?_⟩
        have hk : k < str.length := (List.getElem?_eq_some_iff.1 hc).1
        have e2 : (⟨str.toArray⟩ : ByteArray).size = str.length := by simp [ByteArray.size]
        have e4 : ((Int.ofNat k : Int)) = (k : Int) := rfl
        simp [h3, h6, val_str h1, val_int h4, Instr.index, asIntOf, run_underlying (hi.string hiu), e2, hk, e4]
        rw [← (List.getElem?_eq_some_iff.1 hc).2]
        rfl
      · cases h
    · cases h
  case indexAddr t x y =>
    split at h
    · rename_i b o len cap kd k e hx hy hu
      split at h
      · rename_i ei hei
        cases hb : Nat.blt k len with
        | false => rw [hb] at h; cases h
        | true =>
          rw [hb] at h
          simp only [cond_true, Option.some.injEq] at h
          subst h
          have hk : k < len := by simpa [Nat.blt_eq] using hb
          obtain ⟨X, h1, _, h3⟩ := hE.dev hx
          obtain ⟨Y, h4, _, h6⟩ := hE.dev hy
          obtain ⟨L, hL, hle, rfl⟩ := val_slice h1
          obtain ⟨i, hi, hiu⟩ := tyUnd_spec hT hu
          have hs := (hT.ti hei).sizeOf w
          have hoff : cap.off L o = o := by
            cases cap with
            | known c => rfl
            | rest q alt =>
              simp only [Cap.at_] at hle
              simp only [Cap.off]
              rw [if_neg (by omega)]
          refine ⟨.pointer (some ⟨L.b, L.base + (o + k * ei.size), none⟩), by simp [val, hL], ?_⟩
          have e4 : ((Int.ofNat k : Int)) = (k : Int) := rfl
          simp [h3, h6, val_int h4, Instr.indexAt, asIntOf, run_underlying (hi.slice hiu), hs, Addr.add_lit, hk, hoff, e4, Nat.add_assoc]
      · cases h
    · cases h
  case slice t x lo hi mx =>
    cases mx with
    | some mx => simp at h
    | none =>
      simp only at h
      split at h
      · rename_i str hx hu
        split at h
        · rename_i l r hl hr
          cases hb : (Nat.ble l r && Nat.ble r str.length) with
          | false => rw [hb] at h; cases h
          | true =>
            rw [hb] at h
            simp only [cond_true, Option.some.injEq] at h
            subst h
            simp only [Bool.and_eq_true, Nat.ble_eq] at hb
            obtain ⟨X, h1, _, h3⟩ := hE.dev hx
            obtain ⟨i, hi', hiu⟩ := tyUnd_spec hT hu
            have e2 : (⟨str.toArray⟩ : ByteArray).size = str.length := by simp [ByteArray.size]
            have hb2 := run_bounds (P := P) (w := w) (isS := false) (cap := str.length) hE hl hr hb.1 hb.2 (Nat.le_refl _)
            refine ⟨.string ⟨((str.drop l).take (r - l)).toArray⟩, rfl, ?_⟩
            have e3 : (⟨str.toArray⟩ : ByteArray).extract l r = ⟨((str.drop l).take (r - l)).toArray⟩ := by
              apply ByteArray.ext
              rw [ByteArray.data_extract]
              simp [List.extract]
            simp [h3, val_str h1, Instr.sliceAt, Instr.slice, run_underlying (hi'.string hiu), e2, hb2, e3]
        · cases h
      · rename_i A len cap e hx hu
        split at h
        · rename_i l r ei hl hr hei
          cases hb : (Nat.ble l r && Nat.ble r len) with
          | false => rw [hb] at h; cases h
          | true =>
            rw [hb] at h
            simp only [cond_true] at h
            simp only [Bool.and_eq_true, Nat.ble_eq] at hb
            obtain ⟨hlr, hrl⟩ := hb
            obtain ⟨X, h1, _, h3⟩ := hE.dev hx
            obtain ⟨i, hi', hiu⟩ := tyUnd_spec hT hu
            have hs := (hT.ti hei).sizeOf w
            split at h
            · rename_i c
              simp only [Option.some.injEq] at h
              subst h
              obtain ⟨k, hk, hle, rfl⟩ := val_slice_nil h1
              injection hk with hk; subst hk
              have hb2 := run_bounds (P := P) (w := w) (isS := true) (cap := c) hE hl hr hlr hrl hle
              refine ⟨.slice none (r - l) (c - l), ?_, ?_⟩
              · simp only [val]; rw [if_pos (by omega)]
              · simp [h3, Instr.sliceAt, Instr.slice, run_underlying (hi'.slice hiu), hb2, hs]
            · rename_i b o c
              simp only [Option.some.injEq] at h
              subst h
              obtain ⟨L, hL, hle, rfl⟩ := val_slice h1
              simp only [Cap.at_] at hle
              have hb2 := run_bounds (P := P) (w := w) (isS := true) (cap := c) hE hl hr hlr hrl hle
              by_cases hcl : c = l
              · subst hcl
                have hbeq : Nat.beq c c = true := Nat.beq_refl c
                rw [hbeq]
                refine ⟨_, val_slice_of hL (by simp only [Cap.at_]; omega), ?_⟩
                simp [h3, Instr.sliceAt, Instr.slice, run_underlying (hi'.slice hiu), hb2, hs, Cap.at_, Cap.off]
              · have hbeq : Nat.beq c l = false := by
                  cases hq : Nat.beq c l with
                  | false => rfl
                  | true => exact absurd (Nat.eq_of_beq_eq_true hq) hcl
                rw [hbeq]
                refine ⟨_, val_slice_of hL (by simp only [Cap.at_]; omega), ?_⟩
                simp [h3, Instr.sliceAt, Instr.slice, run_underlying (hi'.slice hiu), hb2, hs, Cap.at_, Cap.off, hcl, Addr.add_lit, Nat.add_assoc]
            · rename_i b o k alt
              simp only [Option.some.injEq] at h
              subst h
              obtain ⟨L, hL, hle, rfl⟩ := val_slice h1
              simp only [Cap.at_] at hle
              have hb2 := run_bounds (P := P) (w := w) (isS := true) (cap := L.cap - k) hE hl hr hlr hrl hle
              by_cases hl0 : l = 0
              · subst hl0
                simp only [Nat.beq_refl, cond_true]
                refine ⟨_, val_slice_of hL (by simp only [Cap.at_]; omega), ?_⟩
                simp [h3, Instr.sliceAt, Instr.slice, run_underlying (hi'.slice hiu), hb2, hs, Cap.at_, Addr.add_lit]
              · have hbeq : Nat.beq l 0 = false := by
                  cases hq : Nat.beq l 0 with
                  | false => rfl
                  | true => exact absurd (Nat.eq_of_beq_eq_true hq) hl0
                rw [hbeq]
                have hne : ¬ L.cap = k := by omega
                refine ⟨_, val_slice_of hL (by simp only [Cap.at_]; omega), ?_⟩
                by_cases hcl : L.cap = k + l
                · have hcl2 : L.cap - k = l := by omega
                  have hcl3 : L.cap - (k + l) = 0 := by omega
                  rw [hcl2] at hb2
                  have hcl4 : k + l - k = l := by omega
                  have hcl5 : ¬ l = 0 := hl0
                  simp [h3, Instr.sliceAt, Instr.slice, run_underlying (hi'.slice hiu), hb2, hs, Cap.at_, Cap.off, hne, hcl2, hcl3, hcl, hcl4, hcl5]
                · have hcl2 : ¬ L.cap - k = l := by omega
                  have hcl3 : L.cap - (k + l) = L.cap - k - l := by omega
                  simp [h3, Instr.sliceAt, Instr.slice, run_underlying (hi'.slice hiu), hb2, hs, Cap.at_, Cap.off, hne, hcl, hcl2, hcl3, Addr.add_lit, Nat.add_assoc]
            · cases h
        · cases h
      · cases h
  case call c =>
    split at h
    · rename_i x t hc hx ht
      have h1 : c.args = #[x] := by apply Array.ext'; simpa using hx
      have h2 : c.argTypes = #[t] := by apply Array.ext'; simpa using ht
      split at h
      · rename_i str hs hu
        simp only [Option.some.injEq] at h
        subst h
        obtain ⟨X, k1, _, k3⟩ := hE.dev hs
        obtain ⟨i, hi, hiu⟩ := tyUnd_spec hT hu
        have e2 : (⟨str.toArray⟩ : ByteArray).size = str.length := by simp [ByteArray.size]
        refine ⟨.int .i64 str.length, rfl, ?_⟩
        simp [resolve, hc, h1, h2, invoke, builtin, k3, val_str k1, Builtin.len_, run_underlying (hi.string hiu), goInt, e2]
      · rename_i p m cp e hs hu
        simp only [Option.some.injEq] at h
        subst h
        obtain ⟨X, k1, _, k3⟩ := hE.dev hs
        obtain ⟨i, hi, hiu⟩ := tyUnd_spec hT hu
        obtain ⟨q, k, rfl⟩ := val_sliceAny k1
        refine ⟨.int .i64 m, rfl, ?_⟩
        simp [resolve, hc, h1, h2, invoke, builtin, k3, Builtin.len_, run_underlying (hi.slice hiu), goInt]
      · cases h
    · rename_i ts x y hc hx
      have h1 : c.args = #[x, y] := by apply Array.ext'; simpa using hx
      split at h
      · rename_i k p k' q hx' hy'
        simp only [Option.some.injEq] at h
        subst h
        obtain ⟨X, k1, _, k3⟩ := hE.dev hx'
        obtain ⟨Y, k4, _, k6⟩ := hE.dev hy'
        refine ⟨_, rfl, ?_⟩
        simp [resolve, hc, h1, invoke, builtin, k3, k6, val_int k1, val_int k4, Builtin.min_, min_run]
      · cases h
    · rename_i ts x y hc hx
      have h1 : c.args = #[x, y] := by apply Array.ext'; simpa using hx
      split at h
      · rename_i k p k' q hx' hy'
        simp only [Option.some.injEq] at h
        subst h
        obtain ⟨X, k1, _, k3⟩ := hE.dev hx'
        obtain ⟨Y, k4, _, k6⟩ := hE.dev hy'
        refine ⟨_, rfl, ?_⟩
        simp [resolve, hc, h1, invoke, builtin, k3, k6, val_int k1, val_int k4, Builtin.max_, max_run]
      · cases h
    · rename_i ts x hc hx
      have g1 : c.args = #[x] := by apply Array.ext'; simpa using hx
      split at h
      · rename_i m cp hx'
        simp only [Option.some.injEq] at h
        subst h
        obtain ⟨X, k1, _, k3⟩ := hE.dev hx'
        obtain ⟨k, _, _, rfl⟩ := val_slice_nil k1
        refine ⟨_, rfl, ?_⟩
        simp [resolve, hc, g1, invoke, builtin, k3, usd_nil]
      · rename_i A m cc hx'
        simp only [Option.some.injEq] at h
        subst h
        obtain ⟨b, o⟩ := A
        obtain ⟨X, k1, _, k3⟩ := hE.dev hx'
        obtain ⟨L, hL, hle, rfl⟩ := val_slice k1
        refine ⟨.pointer (some ⟨L.b, L.base + o, none⟩), by simp [val, hL], ?_⟩
        simp [resolve, hc, g1, invoke, builtin, k3, Cap.at_, Cap.off, usd_some _ _ _ _ (cc + 1) (by omega)]
      · rename_i A m k alt hx'
        simp only [Option.some.injEq] at h
        subst h
        obtain ⟨b, o⟩ := A
        obtain ⟨X, k1, _, k3⟩ := hE.dev hx'
        obtain ⟨L, hL, hle, rfl⟩ := val_slice k1
        simp only [Cap.at_] at hle
        have hne : ¬ L.cap = k := by omega
        refine ⟨.pointer (some ⟨L.b, L.base + o, none⟩), by simp [val, hL], ?_⟩
        simp [resolve, hc, g1, invoke, builtin, k3, Cap.at_, Cap.off, hne, usd_some _ _ _ _ (L.cap - k) (by omega)]
      · cases h
    · cases h
end
end Go.D
