/- QuietTurns: the law's walk. -/
import Derived.Test.YtjbcafbeafhdpaaGreatDoorQ1
set_option maxRecDepth 10000
set_option linter.unusedVariables false
set_option linter.unusedSimpArgs false
namespace Go.SL
open Go.RowKit
open Go.Proofs
section
variable {P : Program} {Λ : Lay} {n : Nat} {E : Env} {ρ : Gh} {H : Heap}
/-- What '&' gives. -/
noncomputable def andI (x m : Int) : Int := IntKind.i64.wrap ((BitVec.ofInt 64 x &&& BitVec.ofInt 64 m).toNat : Int)
theorem andI_range (x m : Int) (h0 : 0 ≤ m) (h1 : m ≤ 4611686018427387904) : 0 ≤ andI x m ∧ andI x m ≤ m := by
  unfold andI
  have h2 : (BitVec.ofInt 64 x &&& BitVec.ofInt 64 m).toNat ≤ (BitVec.ofInt 64 m).toNat := by
    rw [BitVec.toNat_and]; exact Nat.and_le_right
  have h3 : (BitVec.ofInt 64 m).toNat = m.toNat := by
    rw [BitVec.toNat_ofInt]; omega
  rw [IntKind.wrap_i64]
  omega
theorem V.andi {t t' : Nat} {x y : Operand} {a b : Int} (hx : ev E x = some (.int .i64 a)) (hy : ev E y = some (.int .i64 b)) :
    VAL P n E ρ H (.binOp .and t x y t') (.int .i64 (andI a b)) := ⟨fun ty ps af g d ac w ha s => by
  simp only [execOp, ha.ev hx, ha.ev hy, eqGuard_and, binOp_and]
  rfl⟩
theorem V.remi {t t' : Nat} {x y : Operand} {k : IntKind} {a b : Int} (hx : ev E x = some (.int k a)) (hy : ev E y = some (.int k b)) (h : b ≠ 0) :
    VAL P n E ρ H (.binOp .rem t x y t') (.int k (a.tmod b)) := ⟨fun ty ps af g d ac w ha s => by
  simp [execOp, ha.ev hx, ha.ev hy, eqGuard_rem, binOp_rem, Op.intDiv, h]⟩
theorem V.eqT {t t' : Nat} {x y : Operand} {k : IntKind} {a b : Int} (hx : ev E x = some (.int k a)) (hy : ev E y = some (.int k b)) (h : a = b) :
    VAL P n E ρ H (.binOp .eql t x y t') (.bool true) := ⟨fun ty ps af g d ac w ha s => by
  simp [execOp, ha.ev hx, ha.ev hy, binOp_eql, h, eqGuard_at_int]⟩
theorem V.gtT {t t' : Nat} {x y : Operand} {k : IntKind} {a b : Int} (hx : ev E x = some (.int k a)) (hy : ev E y = some (.int k b)) (h : b < a) :
    VAL P n E ρ H (.binOp .gtr t x y t') (.bool true) := ⟨fun ty ps af g d ac w ha s => by
  simp [execOp, ha.ev hx, ha.ev hy, binOp_gtr, h, eqGuard_gtr]⟩
end
theorem tN_eq (c l b : Int) (h1 : 1 ≤ c) (h2 : c ≤ 3) (h3 : 0 ≤ l) (h4 : l ≤ 64) (h5 : 0 ≤ b) (h6 : b ≤ 4096) : tN c l b = (l + 1) * (b + 2 * c + 4) := by
  unfold tN
  rw [if_neg (by omega)]
  have e1 : IntKind.i64.wrap (2 * c) = 2 * c := by rw [IntKind.wrap_i64]; omega
  have e2 : IntKind.i64.wrap (b + 2 * c) = b + 2 * c := by rw [IntKind.wrap_i64]; omega
  have e3 : IntKind.i64.wrap (b + 2 * c + 4) = b + 2 * c + 4 := by rw [IntKind.wrap_i64]; omega
  have e4 : IntKind.i64.wrap (l + 1) = l + 1 := by rw [IntKind.wrap_i64]; omega
  rw [e1, e2, e3, e4]
  have h7 : 0 ≤ (l + 1) * (b + 2 * c + 4) := Int.mul_nonneg (by omega) (by omega)
  have h8 : (l + 1) * (b + 2 * c + 4) ≤ 65 * 4200 := Int.le_trans (Int.mul_le_mul_of_nonneg_right (by omega) (by omega)) (Int.mul_le_mul_of_nonneg_left (by omega) (by omega))
  rw [IntKind.wrap_i64]
  omega
theorem tE_ok (c l b : Int) (h1 : 1 ≤ c) (h2 : c ≤ 3) (h3 : 0 ≤ l) (h4 : l ≤ 64) (h5 : 0 ≤ b) (h6 : b ≤ 4096) : tE c l b = 0 := by
  unfold tE; rw [if_neg (by omega)]
theorem tE_no (c l b : Int) (h : c < 1 ∨ 3 < c ∨ l < 0 ∨ 64 < l ∨ b < 0 ∨ 4096 < b) : tE c l b = 2500 := by
  unfold tE; rw [if_pos h]
theorem turnsOk_ct (c l b : Int) (ρ : Gh) (h : 1 ≤ c ∧ c ≤ 3 ∧ 0 ≤ l ∧ l ≤ 64 ∧ 0 ≤ b ∧ b ≤ 4096) : CtV Tryz.prog 6 #[.int .i64 c, .int .i64 l, .int .i64 b] ρ (.tuple #[.int .i64 ((l + 1) * (b + 2 * c + 4)), .int .i64 0]) := by
  have := turns_ct c l b ρ
  rwa [tN_eq c l b (by omega) (by omega) (by omega) (by omega) (by omega) (by omega), tE_ok c l b (by omega) (by omega) (by omega) (by omega) (by omega) (by omega)] at this
theorem turnsNo_ct (c l b : Int) (ρ : Gh) (h : c < 1 ∨ 3 < c ∨ l < 0 ∨ 64 < l ∨ b < 0 ∨ 4096 < b) : CtV Tryz.prog 6 #[.int .i64 c, .int .i64 l, .int .i64 b] ρ (.tuple #[.int .i64 (tN c l b), .int .i64 2500]) := by
  have := turns_ct c l b ρ
  rwa [tE_no c l b h] at this
theorem quietTurns_ct (c0 l0 b0 x0 : Int) (ρ : Gh) : CtV Tryz.prog 4 #[.int .i64 c0, .int .i64 l0, .int .i64 b0, .int .i64 x0] ρ (.bool true) := by
  refine Ct.enter0 Tryz.func4 Tryz.ntmps4 (by kernel_rfl) rfl rfl fun F => ?_
  repeat (first | (refine WL.skipped rfl rfl ?_) | (refine WL.callV rfl (awake_ct _) rfl rfl ?_) | (refine WL.val (V.andi rfl rfl) rfl rfl ?_) | (refine WL.val (V.remi rfl rfl (by decide)) rfl rfl ?_) | (refine WC.condF rfl rfl ?_) | (refine WL.pure okLam rfl rfl rfl ?_) | (refine WL.val (V.loadO okLam rfl rfl (by rfl) (by rfl)) rfl rfl ?_) | (refine WL.val (V.build okLam rfl rfl rfl rfl (by rfl)) rfl rfl ?_) | (refine WL.box rfl rfl rfl rfl fun _ => ?_) | (refine WL.alloc okLam rfl rfl rfl rfl fun _ => ?_) | (refine WL.store okLam rfl rfl rfl rfl rfl rfl (Nat.le_of_ble_eq_true (by rfl)) rfl ?_) | (refine WL.skipped rfl rfl ?_) | (refine WL.nil ?_) | (refine WX.seq ?_) | (refine WC.seq ?_) | (refine WC.region ?_) | (refine WC.block ?_) | (refine WC.skip ?_) | (refine WC.exit ?_) | (refine WX.exitT ?_) | (refine WX.exitB ?_) | (refine WX.exitB' rfl ?_) | (refine WX.normB ?_) | (refine WX.retT ?_) | (refine WX.retB ?_) | (refine WC.ret ?_) | (refine WC.condt rfl ?_) | (refine WC.condf rfl ?_))
  have hC : 1 ≤ IntKind.i64.wrap (1 + IntKind.i64.wrap ((IntKind.u64.wrap c0).tmod 2)) ∧ IntKind.i64.wrap (1 + IntKind.i64.wrap ((IntKind.u64.wrap c0).tmod 2)) ≤ 2 := by
    have h0 : 0 ≤ IntKind.u64.wrap c0 := by rw [IntKind.wrap_u64]; omega
    have h1 := Int.tmod_nonneg 2 h0
    have h2 : (IntKind.u64.wrap c0).tmod 2 < 2 := Int.tmod_lt_of_pos _ (by decide)
    have h3 : IntKind.i64.wrap ((IntKind.u64.wrap c0).tmod 2) = (IntKind.u64.wrap c0).tmod 2 := by rw [IntKind.wrap_i64]; omega
    rw [h3, IntKind.wrap_i64]; omega
  have hK := andI_range l0 31 (by decide) (by decide)
  have hB := andI_range b0 2047 (by decide) (by decide)
  have hD : 1 ≤ IntKind.i64.wrap (1 + andI x0 1023) ∧ IntKind.i64.wrap (1 + andI x0 1023) ≤ 1024 := by
    have := andI_range x0 1023 (by decide) (by decide)
    rw [IntKind.wrap_i64]; omega
  generalize IntKind.i64.wrap (1 + IntKind.i64.wrap ((IntKind.u64.wrap c0).tmod 2)) = C at *
  generalize andI l0 31 = K at *
  generalize andI b0 2047 = M at *
  generalize IntKind.i64.wrap (1 + andI x0 1023) = D at *
  have w1 : IntKind.i64.wrap (C + 1) = C + 1 := by rw [IntKind.wrap_i64]; omega
  have w2 : IntKind.i64.wrap (K + 1) = K + 1 := by rw [IntKind.wrap_i64]; omega
  have w3 : IntKind.i64.wrap (M + 1) = M + 1 := by rw [IntKind.wrap_i64]; omega
  have w4 : IntKind.i64.wrap (3 + D) = 3 + D := by rw [IntKind.wrap_i64]; omega
  have w5 : IntKind.i64.wrap (0 - D) = 0 - D := by rw [IntKind.wrap_i64]; omega
  have w6 : IntKind.i64.wrap (64 + D) = 64 + D := by rw [IntKind.wrap_i64]; omega
  have w7 : IntKind.i64.wrap (4096 + D) = 4096 + D := by rw [IntKind.wrap_i64]; omega
  have g1 : 0 < (K + 1) * (M + 2 * C + 4) := Int.mul_pos (by omega) (by omega)
  have g2 : (K + 1) * (M + 2 * C + 4) < (K + 1) * (M + 2 * IntKind.i64.wrap (C + 1) + 4) := Int.mul_lt_mul_of_pos_left (by omega) (by omega)
  have g3 : (K + 1) * (M + 2 * C + 4) < (IntKind.i64.wrap (K + 1) + 1) * (M + 2 * C + 4) := Int.mul_lt_mul_of_pos_right (by omega) (by omega)
  have g4 : (K + 1) * (M + 2 * C + 4) < (K + 1) * (IntKind.i64.wrap (M + 1) + 2 * C + 4) := Int.mul_lt_mul_of_pos_left (by omega) (by omega)
  repeat (first | (refine WL.skipped rfl rfl ?_) | (refine WL.callV rfl (turnsOk_ct _ _ _ _ (by omega)) rfl rfl ?_) | (refine WL.callV rfl (turnsNo_ct _ _ _ _ (by omega)) rfl rfl ?_) | (refine WL.callV rfl (num_ct _ _) rfl rfl ?_) | (refine WL.val (V.eqT rfl rfl rfl) rfl rfl ?_) | (refine WL.val (V.gtT rfl rfl g1) rfl rfl ?_) | (refine WL.val (V.gtT rfl rfl g2) rfl rfl ?_) | (refine WL.val (V.gtT rfl rfl g3) rfl rfl ?_) | (refine WL.val (V.gtT rfl rfl g4) rfl rfl ?_) | (refine WL.pure okLam rfl rfl rfl ?_) | (refine WL.val (V.loadO okLam rfl rfl (by rfl) (by rfl)) rfl rfl ?_) | (refine WL.val (V.build okLam rfl rfl rfl rfl (by rfl)) rfl rfl ?_) | (refine WL.box rfl rfl rfl rfl fun _ => ?_) | (refine WL.alloc okLam rfl rfl rfl rfl fun _ => ?_) | (refine WL.store okLam rfl rfl rfl rfl rfl rfl (Nat.le_of_ble_eq_true (by rfl)) rfl ?_) | (refine WL.skipped rfl rfl ?_) | (refine WL.nil ?_) | (refine WX.seq ?_) | (refine WC.seq ?_) | (refine WC.region ?_) | (refine WC.block ?_) | (refine WC.skip ?_) | (refine WC.exit ?_) | (refine WX.exitT ?_) | (refine WX.exitB ?_) | (refine WX.exitB' rfl ?_) | (refine WX.normB ?_) | (refine WX.retT ?_) | (refine WX.retB ?_) | (refine WC.ret ?_) | (refine WC.condt rfl ?_) | (refine WC.condf rfl ?_))
  exact WX.ret1 (.inl rfl) rfl rfl (Gh.le_refl _) ⟨rfl, rfl, rfl⟩
theorem quietTurns_walk (c l b x : Int) (w : World) : Calls Tryz.prog 4 #[.int .i64 c, .int .i64 l, .int .i64 b, .int .i64 x] w fun e w' => e = .returned (.bool true) ∧ Below w.heap.size w w' :=
  (quietTurns_ct c l b x (D.ghOf w)).calls.mono fun e w' ⟨v, ρ', H', h1, ⟨h2, _, _⟩, h3⟩ => ⟨by rw [h1, h2], h3⟩
#print axioms quietTurns_walk
end Go.SL
