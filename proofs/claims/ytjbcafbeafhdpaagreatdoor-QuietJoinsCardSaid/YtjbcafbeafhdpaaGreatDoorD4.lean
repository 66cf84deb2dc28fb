/- Operations that leave memory alone. -/
import Derived.Test.YtjbcafbeafhdpaaGreatDoorD3
import Derived.Laws.StructEq
import Derived.LaidEqlPtr
set_option maxRecDepth 10000
set_option linter.unusedVariables false
set_option linter.unusedSimpArgs false
namespace Go.D
open Go.SL Go.RowKit
section
variable {P : Program} {Λ : Tys} {Λs : Lay} {σ : Sg} {G : Gh} {n : Nat} {E : DE} {s : St} {a : Act} {w : World}
theorem eqCell_run (hT : TysOk P Λ Λs) {u : Und} {x y : DV} {b : Bool} (h : eqCell Λ u x y = some b) {t : Nat} {i : TI} (hi : OkTI P t i) (hu : i.und = u) {X Y : Value} (hx : val σ x = some X) (hy : val σ y = some Y) (d : Nat) :
    (Op.equalIn (d + 1) t X Y).run P w = .ok b w := by
  unfold eqCell at h
  split at h
  · rename_i k0 k m k' m'
    simp only [val, Option.some.injEq] at hx hy
    subst hx; subst hy
    by_cases hk : k = k'
    · subst hk
      simp only [decide_true, cond_true, Option.some.injEq] at h
      subst h
      simp only [Op.equalIn, run_underlying (hi.int hu), Sem.run_bind, Result.andThen_ok, if_true, Sem.run_pure]
      simp [run_underlying (hi.int hu)]
      by_cases e : m = m' <;> simp [e]
    · simp [hk] at h
  · rename_i p q
    simp only [val, Option.some.injEq] at hx hy
    subst hx; subst hy
    simp only [Option.some.injEq] at h
    subst h
    simp [Op.equalIn, run_underlying (hi.bool hu)]
  · rename_i p q
    simp only [val, Option.some.injEq] at hx hy
    subst hx; subst hy
    simp only [Option.some.injEq] at h
    subst h
    have : ((⟨p.toArray⟩ : ByteArray) == ⟨q.toArray⟩) = beqB p q := by
      rw [beqB_eq]
      show ((p.toArray : Array UInt8) == q.toArray) = decide (p = q)
      rw [Bool.eq_iff_iff]; simp
    simp [Op.equalIn, run_underlying (hi.string hu), this]
  · rename_i e q
    simp only [val, Option.some.injEq] at hx
    subst hx
    simp only [Option.some.injEq] at h
    subst h
    cases q with
    | none => simp only [val, Option.some.injEq] at hy; subst hy; simp [Op.equalIn, run_underlying (hi.ptr hu)]
    | some q =>
      simp only [val] at hy
      split at hy
      · simp only [Option.some.injEq] at hy; subst hy; simp [Op.equalIn, run_underlying (hi.ptr hu)]
      · cases hy
  · rename_i e q
    simp only [Option.some.injEq] at h
    subst h
    simp only [val, Option.some.injEq] at hy
    subst hy
    simp only [val] at hx
    split at hx
    · simp only [Option.some.injEq] at hx; subst hx; simp [Op.equalIn, run_underlying (hi.ptr hu)]
    · cases hx
  · rename_i e p q
    cases hb : (Nat.beq p.1 q.1 && Nat.beq p.2 q.2 && (Λ.get e).isSome) with
    | false => rw [hb] at h; cases h
    | true =>
      rw [hb] at h
      simp only [cond_true, Option.some.injEq] at h
      subst h
      simp only [Bool.and_eq_true] at hb
      have : p = q := Prod.ext (Nat.eq_of_beq_eq_true hb.1.1) (Nat.eq_of_beq_eq_true hb.1.2)
      obtain ⟨ei, hei⟩ := Option.isSome_iff_exists.1 hb.2
      obtain ⟨xi, _, hxi, _⟩ := (hT.ti hei).infos
      subst this
      rw [hx] at hy; injection hy with hy; subst hy
      simp only [val] at hx
      split at hx
      · simp only [Option.some.injEq] at hx
        subst hx
        simp [Op.equalIn, run_underlying (hi.ptr hu), sizeOf, typeInfo, hxi, run_sameAddr_same]
      · cases hx
  · rename_i e n1 c1 q n2 c2
    simp only [Option.some.injEq] at h
    subst h
    cases c1 <;> simp only [val] at hx <;> first | (cases hx; done) | skip
    split at hx
    · simp only [Option.some.injEq] at hx
      subst hx
      cases q with
      | none =>
        cases c2 <;> simp only [val] at hy <;> first | (cases hy; done) | skip
        split at hy
        · simp only [Option.some.injEq] at hy; subst hy; simp [Op.equalIn, run_underlying (hi.slice hu)]
        · cases hy
      | some q =>
        simp only [val] at hy
        split at hy
        · split at hy
          · simp only [Option.some.injEq] at hy; subst hy; simp [Op.equalIn, run_underlying (hi.slice hu)]
          · cases hy
        · cases hy
    · cases hx
  · rename_i e q n1 c1 n2 c2
    simp only [Option.some.injEq] at h
    subst h
    simp only [val] at hx
    split at hx
    · split at hx
      · simp only [Option.some.injEq] at hx
        subst hx
        cases c2 <;> simp only [val] at hy <;> first | (cases hy; done) | skip
        split at hy
        · simp only [Option.some.injEq] at hy; subst hy; simp [Op.equalIn, run_underlying (hi.slice hu)]
        · cases hy
      · cases hx
    · cases hx
  · cases h
theorem eqFields_run (hT : TysOk P Λ Λs) {xs ys : List DV} {Xs Ys : List Value} (hx : vals σ xs = some Xs) (hy : vals σ ys = some Ys) (d : Nat) : ∀ (fs : List Field) (b : Bool), eqFields Λ xs ys (fs.map fun f => (f.type, f.offset)) = some b → (∀ f ∈ fs, f.name ≠ "_") →
    (Op.eqFields (d + 1) Xs.toArray Ys.toArray fs).run P w = .ok b w
  | [], b, h, _ => by simp only [List.map_nil, eqFields, Option.some.injEq] at h; subst h; simp [Op.eqFields]
  | f :: fs, b, h, hn => by
    simp only [List.map_cons, eqFields] at h
    split at h
    · rename_i u x y hu hxo hyo
      obtain ⟨i, hi, hiu⟩ := tyUnd_spec hT hu
      obtain ⟨X, hX, hX'⟩ := vals_get _ hx hxo
      obtain ⟨Y, hY, hY'⟩ := vals_get _ hy hyo
      have hname := hn f (List.mem_cons_self ..)
      have hrest : ∀ g ∈ fs, g.name ≠ "_" := fun g hg => hn g (List.mem_cons_of_mem _ hg)
      have key : ∀ c, eqCell Λ u x y = some c → i.und ≠ .other → i.agg = false → (if f.name ≠ "_" then do
          let a ← part f.type Xs.toArray f.offset
          let b ← part f.type Ys.toArray f.offset
          let r ← Op.equalIn (d + 1) f.type a b
          if (!r) = true then pure false else Op.eqFields (d + 1) Xs.toArray Ys.toArray fs
        else Op.eqFields (d + 1) Xs.toArray Ys.toArray fs : Sem Bool).run P w = if c then (Op.eqFields (d + 1) Xs.toArray Ys.toArray fs).run P w else .ok false w := by
        intro c hc ho hg
        have h1 := hi.isAgg ho w
        rw [hg] at h1
        have h2 := eqCell_run (P := P) (w := w) hT hc hi hiu hX hY d
        rw [if_pos hname]
        simp [part, h1, hX', hY', h2]
        cases c <;> simp
      simp only [Op.eqFields]
      split at h
      · cases h
      · cases h
      · rename_i hns hno
        have ho : i.und ≠ .other := by rw [hiu]; exact hno
        have hg : i.agg = false := by
          unfold TI.agg
          rw [hiu]
          split
          · exact absurd rfl (hns _)
          · rfl
        split at h
        · rename_i hc
          rw [key true hc ho hg]
          exact eqFields_run hT hx hy d fs b h hrest
        · rename_i hc
          simp only [Option.some.injEq] at h
          subst h
          rw [key false hc ho hg]
          rfl
        · cases h
    · cases h
theorem dbin_run (hT : TysOk P Λ Λs) {op : BinOp} {t : Nat} {x y v : DV} (h : dbin Λ op t x y = some v) {X Y : Value} (hx : val σ x = some X) (hy : val σ y = some Y) (A B : Operand) :
    ∃ V, val σ v = some V ∧ (do eqGuard op t A B X Y; binOp op t X Y : Sem Value).run P w = .ok V w := by
  have viaCell : ∀ (u : Und) (b : Bool), tyUnd Λ t = some u → eqCell Λ u x y = some b → (op = .eql ∨ op = .neq) →
      (∀ k m k' m', x = .int k m → y = .int k' m' → False) → (∀ p q, x = .str p → y = .str q → False) →
      (do eqGuard op t A B X Y; binOp op t X Y : Sem Value).run P w = .ok (.bool (bif decide (op = .eql) then b else !b)) w := by
    intro u b hu hc ho hni hns
    obtain ⟨i, hi, hiu⟩ := tyUnd_spec hT hu
    have he : (Op.equal t X Y).run P w = .ok b w := eqCell_run (P := P) (w := w) hT hc hi hiu hx hy 9999
    unfold eqCell at hc
    split at hc
    · exact absurd rfl (hni _ _ _ _ rfl)
    · rename_i p q
      simp only [val, Option.some.injEq] at hx hy
      subst hx; subst hy
      refine guard_pure (by apply eqGuard_at_bool) ?_
      rcases ho with rfl | rfl
      · exact binOp_eql_of rfl he
      · exact binOp_neq_of rfl he
    · exact absurd rfl (hns _ _ rfl)
    · rename_i q
      simp only [val, Option.some.injEq] at hx
      subst hx
      have : ∃ q', Y = .pointer q' := by
        cases q with
        | none => simp only [val, Option.some.injEq] at hy; exact ⟨_, hy.symm⟩
        | some q =>
          simp only [val] at hy
          split at hy
          · simp only [Option.some.injEq] at hy; exact ⟨_, hy.symm⟩
          · cases hy
      obtain ⟨q', rfl⟩ := this
      refine guard_pure (by apply eqGuard_at_pointer) ?_
      rcases ho with rfl | rfl
      · exact binOp_eql_of (by cases q' <;> rfl) he
      · exact binOp_neq_of (by cases q' <;> rfl) he
    · simp only [val, Option.some.injEq] at hy
      subst hy
      have : ∃ q', X = .pointer (some q') := by
        simp only [val] at hx
        split at hx
        · simp only [Option.some.injEq] at hx; exact ⟨_, hx.symm⟩
        · cases hx
      obtain ⟨q', rfl⟩ := this
      refine guard_pure (by apply eqGuard_at_pointer) ?_
      rcases ho with rfl | rfl
      · exact binOp_eql_of rfl he
      · exact binOp_neq_of rfl he
    · rename_i p q
      have isP : ∀ {z : Nat × Nat} {Z : Value}, val σ (.ptr (some z)) = some Z → ∃ q', Z = .pointer (some q') := by
        intro z Z hz
        simp only [val] at hz
        split at hz
        · simp only [Option.some.injEq] at hz; exact ⟨_, hz.symm⟩
        · cases hz
      obtain ⟨p', rfl⟩ := isP hx
      obtain ⟨q', rfl⟩ := isP hy
      refine guard_pure (by apply eqGuard_at_pointer) ?_
      rcases ho with rfl | rfl
      · exact binOp_eql_of rfl he
      · exact binOp_neq_of rfl he
    all_goals first
      | (cases hc; done)
      | (have h1 : ∀ {z : DV} {Z : Value} {a : Option (Nat × Nat)} {n : Nat} {c : Cap}, z = .slice a n c → val σ z = some Z → ∃ q m k, Z = .slice q m k := by
           intro z Z a n c hz hZ
           subst hz
           cases a with
           | none =>
             cases c <;> simp only [val] at hZ <;> first | (cases hZ; done) | skip
             split at hZ
             · simp only [Option.some.injEq] at hZ; exact ⟨_, _, _, hZ.symm⟩
             · cases hZ
           | some a =>
             simp only [val] at hZ
             split at hZ
             · split at hZ
               · simp only [Option.some.injEq] at hZ; exact ⟨_, _, _, hZ.symm⟩
               · cases hZ
             · cases hZ
         obtain ⟨q, m, k, rfl⟩ := h1 rfl hx
         obtain ⟨q', m', k', rfl⟩ := h1 rfl hy
         refine guard_pure (by apply eqGuard_at_slice) ?_
         rcases ho with rfl | rfl
         · exact binOp_eql_of rfl he
         · exact binOp_neq_of rfl he)
  unfold dbin at h
  split at h
  · rename_i k m k' m'
    simp only [val, Option.some.injEq] at hx hy
    subst hx; subst hy
    split at h
    · by_cases hb : m' < 0
      · simp [hb] at h
      · simp only [hb, decide_false, cond_false, Option.some.injEq] at h
        subst h
        have hg : eqGuard .shl t A B (.int k m) (.int k' m') = pure () := by apply eqGuard_at_int
        refine ⟨_, rfl, guard_pure hg ?_⟩
        simp [binOp_shl, Op.shift, hb]
    · by_cases hb : m' < 0
      · simp [hb] at h
      · simp only [hb, decide_false, cond_false, Option.some.injEq] at h
        subst h
        have hg : eqGuard .shr t A B (.int k m) (.int k' m') = pure () := by apply eqGuard_at_int
        refine ⟨_, rfl, guard_pure hg ?_⟩
        simp [binOp_shr, Op.shift, hb]
    · rename_i hn1 hn2
      by_cases hk : k = k'
      · subst hk
        simp only [decide_true, cond_true] at h
        have hg : eqGuard op t A B (.int k m) (.int k m') = pure () := by apply eqGuard_at_int
        cases op <;> simp only [Option.some.injEq] at h <;> first
          | (subst h; refine ⟨_, rfl, guard_pure hg ?_⟩; first | rw [binOp_and] | rw [binOp_or] | rw [binOp_xor] | rw [binOp_andNot]
             rfl)
          | (by_cases hb : m' = 0
             · simp [hb] at h
             · simp only [hb, decide_false, cond_false, Option.some.injEq] at h
               subst h
               refine ⟨_, rfl, guard_pure hg ?_⟩
               simp [binOp_quo, binOp_rem, Op.intDiv, hb]
             done)
          | (subst h; refine ⟨_, rfl, guard_pure hg ?_⟩; simp [binOp_add, binOp_sub, binOp_mul, binOp_eql, binOp_neq, binOp_lss, binOp_leq, binOp_gtr, binOp_geq, Op.intArith, dwrap_eq]; done)
          | (subst h; refine ⟨_, rfl, guard_pure hg ?_⟩; simp [binOp_add, binOp_sub, binOp_mul, binOp_eql, binOp_neq, binOp_lss, binOp_leq, binOp_gtr, binOp_geq, Op.intArith, dwrap_eq]; by_cases e : m = m' <;> simp [e]; done)
          | (cases h; done)
      · simp [hk] at h
  · rename_i p q
    simp only [val, Option.some.injEq] at hx hy
    subst hx; subst hy
    have hg : eqGuard op t A B (.string ⟨p.toArray⟩) (.string ⟨q.toArray⟩) = pure () := by apply eqGuard_at_string
    have hb : (p == q) = beqB p q := by rw [beqB_eq, Bool.eq_iff_iff]; simp
    cases op <;> simp only [Option.some.injEq] at h <;> first | (cases h; done) | skip
    · cases hle : Nat.ble (p.length + q.length) 1099511627776 with
      | false => rw [hle] at h; cases h
      | true =>
        rw [hle] at h
        simp only [cond_true, Option.some.injEq] at h
        subst h
        have hle' := Nat.le_of_ble_eq_true hle
        refine ⟨.string ⟨(p ++ q).toArray⟩, rfl, guard_pure hg ?_⟩
        have e : (⟨p.toArray⟩ : ByteArray) ++ ⟨q.toArray⟩ = ⟨(p ++ q).toArray⟩ := by
          apply ByteArray.ext; simp
        have e2 : ByteArray.size ⟨p.toArray⟩ = p.length := by simp [ByteArray.size]
        have e3 : ByteArray.size ⟨q.toArray⟩ = q.length := by simp [ByteArray.size]
        simp [binOp, Op.stringOp, e, e2, e3]
        omega
    · subst h
      refine ⟨_, rfl, guard_pure hg ?_⟩
      simp [binOp, Op.stringOp, hb]
    · subst h
      refine ⟨_, rfl, guard_pure hg ?_⟩
      simp [binOp, Op.stringOp, hb, bne]
  · rename_i xs ys
    have hX : ∃ Xs, vals σ xs = some Xs ∧ X = .agg Xs.toArray := by
      simp only [val] at hx
      split at hx
      · rename_i C hC; simp only [Option.some.injEq] at hx; exact ⟨C, hC, hx.symm⟩
      · cases hx
    have hY : ∃ Ys, vals σ ys = some Ys ∧ Y = .agg Ys.toArray := by
      simp only [val] at hy
      split at hy
      · rename_i C hC; simp only [Option.some.injEq] at hy; exact ⟨C, hC, hy.symm⟩
      · cases hy
    obtain ⟨Xs, hXs, rfl⟩ := hX
    obtain ⟨Ys, hYs, rfl⟩ := hY
    have main : ∀ fs u b, tyUnd Λ t = some (.struct fs) → Λ.eqt.get t = some u → eqFields Λ xs ys fs = some b → (op = .eql ∨ op = .neq) →
        (do eqGuard op t A B (.agg Xs.toArray) (.agg Ys.toArray); binOp op t (.agg Xs.toArray) (.agg Ys.toArray) : Sem Value).run P w = .ok (.bool (bif decide (op = .eql) then b else !b)) w := by
      intro fs u b hu hq hb ho
      obtain ⟨h1, h2, h3⟩ := hT.eq t u hq
      obtain ⟨i, hi, hiu⟩ := tyUnd_spec hT hu
      obtain ⟨fl, h4, h5⟩ := hi.struct hiu
      have h6 : P.fieldsOf t = fl := by simp [Program.fieldsOf, h4]
      have he : (Op.equal t (.agg Xs.toArray) (.agg Ys.toArray)).run P w = .ok b w := by
        have := run_equalIn_struct (P := P) w 9999 t Xs.toArray Ys.toArray (by rw [h6]; exact h4) h1
        unfold Op.equal Op.maxDepth
        rw [this, h6]
        exact eqFields_run hT hXs hYs 9998 fl.toList b (by rw [h5]; exact hb) (h3 fl h4)
      have hg : (eqGuard op t A B (.agg Xs.toArray) (.agg Ys.toArray)).run P w = .ok () w := by
        rcases ho with rfl | rfl <;> simp [eqGuard, h2]
      rcases ho with rfl | rfl
      · have := binOp_eql_of (P := P) (t := t) (x := .agg Xs.toArray) (y := .agg Ys.toArray) (w := w) rfl he
        simp only [Sem.run_bind, hg, Result.andThen_ok, this]
        rfl
      · have := binOp_neq_of (P := P) (t := t) (x := .agg Xs.toArray) (y := .agg Ys.toArray) (w := w) rfl he
        simp only [Sem.run_bind, hg, Result.andThen_ok, this]
        rfl
    split at h
    · rename_i fs hu
      split at h
      · rename_i u b hq hb
        simp only [Option.some.injEq] at h
        subst h
        exact ⟨_, rfl, main fs u b hu hq hb (.inl rfl)⟩
      · cases h
    · rename_i fs hu
      split at h
      · rename_i u b hq hb
        simp only [Option.some.injEq] at h
        subst h
        exact ⟨_, rfl, main fs u b hu hq hb (.inr rfl)⟩
      · cases h
    · cases h
  · rename_i hni hns _
    split at h
    · rename_i u hu
      split at h
      · rename_i b hb
        simp only [Option.some.injEq] at h
        subst h
        exact ⟨_, rfl, viaCell u b hu hb (.inl rfl) (fun _ _ _ _ h1 h2 => hni _ _ _ _ h1 h2) (fun _ _ h1 h2 => hns _ _ h1 h2)⟩
      · cases h
    · rename_i u hu
      split at h
      · rename_i b hb
        simp only [Option.some.injEq] at h
        subst h
        exact ⟨_, rfl, viaCell u b hu hb (.inr rfl) (fun _ _ _ _ h1 h2 => hni _ _ _ _ h1 h2) (fun _ _ h1 h2 => hns _ _ h1 h2)⟩
      · cases h
    · cases h
end
end Go.D
