/- Bounds: the law's walk. -/
import Derived.Test.YtjbcafbeafhdpaaGreatDoorQ0
import Derived.Test.YtjbcafbeafhdpaaGreatDoorE2
set_option maxRecDepth 10000
set_option linter.unusedVariables false
set_option linter.unusedSimpArgs false
namespace Go.SL
open Go.RowKit
open Go.Proofs
/-- What Turns gives. -/
def tN (c l b : Int) : Int := if c < 1 ∨ 3 < c ∨ l < 0 ∨ 64 < l ∨ b < 0 ∨ 4096 < b then 0 else IntKind.i64.wrap (IntKind.i64.wrap (l + 1) * IntKind.i64.wrap (IntKind.i64.wrap (b + IntKind.i64.wrap (2 * c)) + 4))
def tE (c l b : Int) : Int := if c < 1 ∨ 3 < c ∨ l < 0 ∨ 64 < l ∨ b < 0 ∨ 4096 < b then 2500 else 0
theorem turns_ct (c l b : Int) (ρ : Gh) : CtV Tryz.prog 6 #[.int .i64 c, .int .i64 l, .int .i64 b] ρ (.tuple #[.int .i64 (tN c l b), .int .i64 (tE c l b)]) := by
  refine Ct.enter0 Tryz.func6 Tryz.ntmps6 (by kernel_rfl) rfl rfl fun F => ?_
  repeat' (first | (refine WL.skipped rfl rfl ?_) | (refine WL.pure okLam rfl rfl rfl ?_) | (refine WL.val (V.loadO okLam rfl rfl (by rfl) (by rfl)) rfl rfl ?_) | (refine WL.val (V.build okLam rfl rfl rfl rfl (by rfl)) rfl rfl ?_) | (refine WL.box rfl rfl rfl rfl fun _ => ?_) | (refine WL.alloc okLam rfl rfl rfl rfl fun _ => ?_) | (refine WL.store okLam rfl rfl rfl rfl rfl rfl (Nat.le_of_ble_eq_true (by rfl)) rfl ?_) | (refine WL.skipped rfl rfl ?_) | (refine WL.nil ?_) | (refine WX.seq ?_) | (refine WC.seq ?_) | (refine WC.region ?_) | (refine WC.block ?_) | (refine WC.skip ?_) | (refine WC.exit ?_) | (refine WX.exitT ?_) | (refine WX.exitB ?_) | (refine WX.exitB' rfl ?_) | (refine WX.normB ?_) | (refine WX.retT ?_) | (refine WX.retB ?_) | (refine WC.ret ?_) | (refine WC.condt rfl ?_) | (refine WC.condf rfl ?_) | (refine WC.condT rfl (by with_reducible assumption) ?_) | (refine WC.condF rfl (by with_reducible assumption) ?_) | (refine WC.cond rfl (fun _ => ?_) (fun _ => ?_)) | (refine WL.gsplit rfl rfl (fun _ => ?_) (fun _ => ?_)))
  all_goals (try simp only [Bool.not_eq_true', Bool.not_eq_false', B_true, B_false] at *)
  all_goals first
    | (refine WX.ret2 (.inl rfl) rfl rfl rfl (Gh.le_refl _) ⟨?_, rfl, rfl⟩
       rw [tN, tE, if_pos (by omega), if_pos (by omega)]
       done)
    | (refine WX.ret2 (.inl rfl) rfl rfl rfl (Gh.le_refl _) ⟨?_, rfl, rfl⟩
       rw [tN, tE, if_neg (by omega), if_neg (by omega)]
       done)
theorem refTurns_ct (c l b : Int) (ρ : Gh) : CtV Tryz.prog 7 #[.int .i64 c, .int .i64 l, .int .i64 b] ρ (.tuple #[.int .i64 (tN c l b), .int .i64 (tE c l b)]) := by
  refine Ct.enter0 Tryz.func7 Tryz.ntmps7 (by kernel_rfl) rfl rfl fun F => ?_
  repeat' (first | (refine WL.skipped rfl rfl ?_) | (refine WL.pure okLam rfl rfl rfl ?_) | (refine WL.val (V.loadO okLam rfl rfl (by rfl) (by rfl)) rfl rfl ?_) | (refine WL.val (V.build okLam rfl rfl rfl rfl (by rfl)) rfl rfl ?_) | (refine WL.box rfl rfl rfl rfl fun _ => ?_) | (refine WL.alloc okLam rfl rfl rfl rfl fun _ => ?_) | (refine WL.store okLam rfl rfl rfl rfl rfl rfl (Nat.le_of_ble_eq_true (by rfl)) rfl ?_) | (refine WL.skipped rfl rfl ?_) | (refine WL.nil ?_) | (refine WX.seq ?_) | (refine WC.seq ?_) | (refine WC.region ?_) | (refine WC.block ?_) | (refine WC.skip ?_) | (refine WC.exit ?_) | (refine WX.exitT ?_) | (refine WX.exitB ?_) | (refine WX.exitB' rfl ?_) | (refine WX.normB ?_) | (refine WX.retT ?_) | (refine WX.retB ?_) | (refine WC.ret ?_) | (refine WC.condt rfl ?_) | (refine WC.condf rfl ?_) | (refine WC.condT rfl (by with_reducible assumption) ?_) | (refine WC.condF rfl (by with_reducible assumption) ?_) | (refine WC.cond rfl (fun _ => ?_) (fun _ => ?_)) | (refine WL.gsplit rfl rfl (fun _ => ?_) (fun _ => ?_)))
  all_goals (try simp only [Bool.not_eq_true', Bool.not_eq_false', B_true, B_false] at *)
  all_goals first
    | (refine WX.ret2 (.inl rfl) rfl rfl rfl (Gh.le_refl _) ⟨?_, rfl, rfl⟩
       rw [tN, tE, if_pos (by omega), if_pos (by omega)]
       done)
    | (refine WX.ret2 (.inl rfl) rfl rfl rfl (Gh.le_refl _) ⟨?_, rfl, rfl⟩
       rw [tN, tE, if_neg (by omega), if_neg (by omega)]
       done)
theorem num_ct (e : Int) (ρ : Gh) : CtV Tryz.prog 8 #[.int .i64 e] ρ (.int .i64 e) := by
  refine Ct.enter0 Tryz.func8 Tryz.ntmps8 (by kernel_rfl) rfl rfl fun F => ?_
  repeat (first | (refine WL.skipped rfl rfl ?_) | (refine WL.pure okLam rfl rfl rfl ?_) | (refine WL.val (V.loadO okLam rfl rfl (by rfl) (by rfl)) rfl rfl ?_) | (refine WL.val (V.build okLam rfl rfl rfl rfl (by rfl)) rfl rfl ?_) | (refine WL.box rfl rfl rfl rfl fun _ => ?_) | (refine WL.alloc okLam rfl rfl rfl rfl fun _ => ?_) | (refine WL.store okLam rfl rfl rfl rfl rfl rfl (Nat.le_of_ble_eq_true (by rfl)) rfl ?_) | (refine WL.skipped rfl rfl ?_) | (refine WL.nil ?_) | (refine WX.seq ?_) | (refine WC.seq ?_) | (refine WC.region ?_) | (refine WC.block ?_) | (refine WC.skip ?_) | (refine WC.exit ?_) | (refine WX.exitT ?_) | (refine WX.exitB ?_) | (refine WX.exitB' rfl ?_) | (refine WX.normB ?_) | (refine WX.retT ?_) | (refine WX.retB ?_) | (refine WC.ret ?_) | (refine WC.condt rfl ?_) | (refine WC.condf rfl ?_))
  exact WX.ret1 (.inl rfl) rfl rfl (Gh.le_refl _) ⟨rfl, rfl, rfl⟩
theorem awake_ct (ρ : Gh) : CtV Tryz.prog 9 #[] ρ (.bool true) := Ct.of_below (enters_of' Tryz.func9 (by kernel_rfl) rfl) D.awake_calls
theorem bounds_ct (c l b : Int) (ρ : Gh) : CtV Tryz.prog 3 #[.int .i64 c, .int .i64 l, .int .i64 b] ρ (.bool true) := by
  refine Ct.enter0 Tryz.func3 Tryz.ntmps3 (by kernel_rfl) rfl rfl fun F => ?_
  have h1 := turns_ct c l b ρ
  have h2 := refTurns_ct c l b ρ
  generalize tN c l b = N at *
  generalize tE c l b = X at *
  have e1 : B (N = N) = true := B_true.2 rfl
  have e2 : B (X = X) = true := B_true.2 rfl
  repeat (first | (refine WL.skipped rfl rfl ?_) | (refine WL.callV rfl h1 rfl rfl ?_) | (refine WL.callV rfl h2 rfl rfl ?_) | (refine WL.callV rfl (num_ct _ _) rfl rfl ?_) | (refine WL.callV rfl (awake_ct _) rfl rfl ?_) | (refine WL.pure okLam rfl rfl rfl ?_) | (refine WL.val (V.loadO okLam rfl rfl (by rfl) (by rfl)) rfl rfl ?_) | (refine WL.val (V.build okLam rfl rfl rfl rfl (by rfl)) rfl rfl ?_) | (refine WL.box rfl rfl rfl rfl fun _ => ?_) | (refine WL.alloc okLam rfl rfl rfl rfl fun _ => ?_) | (refine WL.store okLam rfl rfl rfl rfl rfl rfl (Nat.le_of_ble_eq_true (by rfl)) rfl ?_) | (refine WL.skipped rfl rfl ?_) | (refine WL.nil ?_) | (refine WX.seq ?_) | (refine WC.seq ?_) | (refine WC.region ?_) | (refine WC.block ?_) | (refine WC.skip ?_) | (refine WC.exit ?_) | (refine WX.exitT ?_) | (refine WX.exitB ?_) | (refine WX.exitB' rfl ?_) | (refine WX.normB ?_) | (refine WX.retT ?_) | (refine WX.retB ?_) | (refine WC.ret ?_) | (refine WC.condt rfl ?_) | (refine WC.condf rfl ?_))
  refine WL.setE 28 (u := .bool (B (N = N))) rfl (by rw [e1]) ?_
  repeat (first | (refine WL.skipped rfl rfl ?_) | (refine WL.callV rfl (num_ct _ _) rfl rfl ?_) | (refine WL.callV rfl (awake_ct _) rfl rfl ?_) | (refine WL.pure okLam rfl rfl rfl ?_) | (refine WL.val (V.loadO okLam rfl rfl (by rfl) (by rfl)) rfl rfl ?_) | (refine WL.val (V.build okLam rfl rfl rfl rfl (by rfl)) rfl rfl ?_) | (refine WL.box rfl rfl rfl rfl fun _ => ?_) | (refine WL.alloc okLam rfl rfl rfl rfl fun _ => ?_) | (refine WL.store okLam rfl rfl rfl rfl rfl rfl (Nat.le_of_ble_eq_true (by rfl)) rfl ?_) | (refine WL.skipped rfl rfl ?_) | (refine WL.nil ?_) | (refine WX.seq ?_) | (refine WC.seq ?_) | (refine WC.region ?_) | (refine WC.block ?_) | (refine WC.skip ?_) | (refine WC.exit ?_) | (refine WX.exitT ?_) | (refine WX.exitB ?_) | (refine WX.exitB' rfl ?_) | (refine WX.normB ?_) | (refine WX.retT ?_) | (refine WX.retB ?_) | (refine WC.ret ?_) | (refine WC.condt rfl ?_) | (refine WC.condf rfl ?_))
  refine WL.setE 34 (u := .bool (B (X = X))) rfl (by rw [e2]) ?_
  repeat (first | (refine WL.skipped rfl rfl ?_) | (refine WL.callV rfl (num_ct _ _) rfl rfl ?_) | (refine WL.callV rfl (awake_ct _) rfl rfl ?_) | (refine WL.pure okLam rfl rfl rfl ?_) | (refine WL.val (V.loadO okLam rfl rfl (by rfl) (by rfl)) rfl rfl ?_) | (refine WL.val (V.build okLam rfl rfl rfl rfl (by rfl)) rfl rfl ?_) | (refine WL.box rfl rfl rfl rfl fun _ => ?_) | (refine WL.alloc okLam rfl rfl rfl rfl fun _ => ?_) | (refine WL.store okLam rfl rfl rfl rfl rfl rfl (Nat.le_of_ble_eq_true (by rfl)) rfl ?_) | (refine WL.skipped rfl rfl ?_) | (refine WL.nil ?_) | (refine WX.seq ?_) | (refine WC.seq ?_) | (refine WC.region ?_) | (refine WC.block ?_) | (refine WC.skip ?_) | (refine WC.exit ?_) | (refine WX.exitT ?_) | (refine WX.exitB ?_) | (refine WX.exitB' rfl ?_) | (refine WX.normB ?_) | (refine WX.retT ?_) | (refine WX.retB ?_) | (refine WC.ret ?_) | (refine WC.condt rfl ?_) | (refine WC.condf rfl ?_))
  exact WX.ret1 (.inl rfl) rfl rfl (Gh.le_refl _) ⟨rfl, rfl, rfl⟩
theorem bounds_walk (c l b : Int) (w : World) : Calls Tryz.prog 3 #[.int .i64 c, .int .i64 l, .int .i64 b] w fun e w' => e = .returned (.bool true) ∧ Below w.heap.size w w' :=
  (bounds_ct c l b (D.ghOf w)).calls.mono fun e w' ⟨v, ρ', H', h1, ⟨h2, _, _⟩, h3⟩ => ⟨by rw [h1, h2], h3⟩
end Go.SL
