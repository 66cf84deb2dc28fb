/- Bytes that become a string; all that turns memory, but calls. -/
import Derived.Test.YtjbcafbeafhdpaaGreatDoorD8
import Derived.Lib.UnsafeStr
import Derived.Lib.Builder
set_option maxRecDepth 10000
set_option linter.unusedVariables false
set_option linter.unusedSimpArgs false
namespace Go.D
open Go.SL Go.RowKit
section
variable {P : Program} {Λ : Tys} {Λs : Lay} {σ : Sg} {G : Gh} {n : Nat} {E : DE} {s : St} {a : Act} {w : World}
theorem Rel.other (h : Rel G σ s w) {x : Nat} {w' : World} (hx : G.objs x = none) (hno : ∀ id o L, s.h.get id = some o → σ id = some L → L.b ≠ x) (hk : ∀ g, g ≠ x → w'.heap[g]? = w.heap[g]?) (hsz : w'.heap.size = w.heap.size)
    (hos : w'.os = w.os) (htp : w'.tape = w.tape) (hout : w'.output = w.output) : Rel G σ s w' := by
  refine ⟨fun b o hb => (hk b fun e => by subst e; rw [hx] at hb; cases hb).trans (h.ghost b o hb), hos.trans h.os, htp.trans h.tape, hout.trans h.output, fun id o ho => ?_, h.inj, h.fresh⟩
  obtain ⟨L, h1, h2, h3, h4⟩ := h.live id o ho
  exact ⟨L, h1, h2, by omega, h4.of (Sg.le_refl _) (hk _ (hno id o L ho h1))⟩
theorem liesAt_bytes' {e : TypeId} (hc : P.cellsOf e = 1) (count off n : Nat) (hn : off + n ≤ count) : liesAt P P.depth e count off e n = true := by
  have hd : P.depth = (2 * (P.types.size + Made.depth) + 1) + 1 := rfl
  rw [hd]
  simp only [liesAt, Bool.or_eq_true]
  left
  rw [hd]
  simp [rowAt, hc, hn, sameLayout, Nat.mod_one]
theorem run_unsafeString_at (pt it ty e : TypeId) (hp : P.underlying pt = some (.pointer e)) (hc : P.cellsOf e = 1) (g q cells : Nat) (hsh : w.shape? g = some (e, cells)) (l : List UInt8) (h0 : l ≠ []) (hn : q + l.length ≤ cells) (h63 : l.length ≤ 9223372036854775807)
    (hcell : ∀ j x, l[j]? = some x → w.cell? ((⟨g, q, none⟩ : Addr).add j) = some (.int .u8 x.toNat)) :
    (Builtin.unsafeString_ #[pt, it] ty #[.pointer (some ⟨g, q, none⟩), .int .i64 l.length]).run P w = .ok (.string ⟨l.toArray⟩) (w.freeze ⟨g, q, none⟩ l.length) := by
  have hl : l.length ≠ 0 := by simpa using h0
  have hlb := Lib.run_loadBytes (P := P) w l ⟨g, q, none⟩ .empty hcell
  have hlies := liesAt_bytes' (P := P) hc (cells / P.cellsOf e) q l.length (by rw [hc]; simpa using hn)
  have h63' : ¬ (9223372036854775807 : Int) < (l.length : Int) := by omega
  rw [show Builtin.unsafeString_ #[pt, it] ty #[.pointer (some ⟨g, q, none⟩), .int .i64 l.length] = (asInt (.int .i64 l.length) >>= _) from rfl]
  have hmax : IntKind.i64.max = 9223372036854775807 := rfl
  have hneg : ¬ (l.length : Int) < 0 := by omega
  simp [asInt, asIntOf, hmax, h63', hneg, hl, variablesAt, hsh, elemOf, run_underlying hp, hlies, hlb]
theorem bytesD_val : ∀ {cs : List DV} {bs : List UInt8} {Cs : List Value}, bytesD cs = some bs → vals σ cs = some Cs → Cs = bs.map fun c => .int .u8 c.toNat
  | [], bs, Cs, h, k => by
    simp only [bytesD, Option.some.injEq] at h; subst h
    simp only [vals, Option.some.injEq] at k; subst k; rfl
  | v :: r, bs, Cs, h, k => by
    obtain ⟨V, R, k1, k2, rfl⟩ := vals_cons k
    unfold bytesD at h
    split at h
    · contradiction
    · rename_i m r' he
      injection he with he1 he2
      subst he1; subst he2
      cases hb : Nat.blt m 256 with
      | false => rw [hb] at h; cases h
      | true =>
        rw [hb] at h
        simp only [cond_true] at h
        split at h
        · rename_i q hq
          simp only [Option.some.injEq] at h
          subst h
          rw [bytesD_val hq k2, val_int k1]
          have hm : m < 256 := by simpa [Nat.blt_eq] using hb
          simp only [List.map_cons]
          congr 2
          have : (UInt8.ofNat m).toNat = m := by simp [UInt8.toNat_ofNat']; omega
          rw [this]; rfl
        · cases h
    · cases h
/-- What a call's evaluation tells. -/
structure CallOk (P : Program) (call : CallF) : Prop where
  go : ∀ f args s v s', call f args s = some (v, s') → ∀ G σ w Vs, Rel G σ s w → vals σ args = some Vs →
    (∀ w, (callFunc f Vs.toArray).run P w = .ok (.enter f Vs.toArray) w) ∧ Calls P f Vs.toArray w fun e w' => ∃ σ' V, Grow s s' σ σ' ∧ e = .returned V ∧ val σ' v = some V ∧ Rel G σ' s' w'
/-- What a function without a body yields. -/
def ExtsOk (P : Program) (P0 : Env0) : Prop := ∀ f x, P0.exts.get f = some x → ∀ args s v s', extD x args s = some (v, s') → ∀ G σ w Vs, Rel G σ s w → vals σ args = some Vs →
    ∃ σ' V w', Grow s s' σ σ' ∧ (callFunc f Vs.toArray).run P w = .ok (.value V) w' ∧ val σ' v = some V ∧ Rel G σ' s' w'
theorem loud_sound {P0 : Env0} {call : CallF} (hT : TysOk P P0.tys Λs) (hX : ExtsOk P P0) (hC : CallOk P call) (hE : EnvR σ n E a) (hR : Rel G σ s w) {o : Oper} {v : DV} {s' : St} (h : loudD P0 call E s o.op = some (v, s')) {K : Act → World → Prop} {Q : Exit → Act → World → Prop}
    (hK : ∀ σ' V w', Grow s s' σ σ' → val σ' v = some V → Rel G σ' s' w' → K (a.put o.dst V) w') : o.wp P a w K Q := by
  have hop : ∀ op, o.op = op → o = ⟨o.dst, op, o.type, o.pos, o.after, o.guard⟩ := fun op e => by rw [← e]
  generalize hgen : o.op = op at h
  cases op <;> simp only [loudD] at h <;> try (cases h; done)
  case store t A x =>
    split at h
    · rename_i h' hst
      simp only [Option.some.injEq, Prod.mk.injEq] at h
      obtain ⟨rfl, rfl⟩ := h
      obtain ⟨w', hrun, hrel⟩ := store_sound (P := P) hT hE hR hst hgen
      exact wp_of_skip hrun (hK σ (.tuple #[]) w' (Grow.same _ _ _) (by simp [val, vals]) hrel)
    · cases h
  case call c =>
    split at h
    · rename_i hc
      split at h
      · rename_i x y t u hargs htys
        have h1 : c.args = #[x, y] := by apply Array.ext'; simpa using hargs
        have h2 : c.argTypes = #[t, u] := by apply Array.ext'; simpa using htys
        split at h
        · rename_i xv yv hx hy
          obtain ⟨X, k1, _, k3⟩ := hE.dev hx
          obtain ⟨Y, k4, _, k6⟩ := hE.dev hy
          obtain ⟨σ', V, w', g1, g2, g3, g4⟩ := append_sound (P := P) hT hR k1 k4 h o.type
          refine wp_of_value (v := V) (w' := w') ?_ (hK σ' V w' g1 g2 g4)
          simp [execOp, hgen, resolve, hc, h1, h2, invoke, builtin, k3, k6, g3]
        · cases h
      · cases h
    · rename_i hc
      split at h
      · rename_i x y pt it hargs htys
        have h1 : c.args = #[x, y] := by apply Array.ext'; simpa using hargs
        have h2 : c.argTypes = #[pt, it] := by apply Array.ext'; simpa using htys
        split at h
        · rename_i hx hy
          simp only [Option.some.injEq, Prod.mk.injEq] at h
          obtain ⟨rfl, rfl⟩ := h
          obtain ⟨X, k1, _, k3⟩ := hE.dev hx
          obtain ⟨Y, k4, _, k6⟩ := hE.dev hy
          have hX : X = .pointer none := by simp only [val, Option.some.injEq] at k1; exact k1.symm
          have hY := val_int k4
          refine wp_of_value (v := .string .empty) (w' := w) ?_ (hK σ _ w (Grow.refl _ _) rfl hR)
          have hrun := Lib.run_unsafeString_none (P := P) w pt it o.type none
          have e0 : (Int.ofNat 0) = 0 := rfl
          simp [execOp, hgen, resolve, hc, h1, h2, invoke, builtin, k3, k6, hX, hY, e0, hrun]
        · rename_i b off m hx hy
          split at h
          · rename_i t sz cs e hb hpt
            cases hq : (Nat.beq t e && oneTy P0.tys e && Nat.ble m 1048576) with
            | false => rw [hq] at h; cases h
            | true =>
              rw [hq] at h
              simp only [Bool.not_true, cond_false] at h
              simp only [Bool.and_eq_true, Nat.ble_eq] at hq
              obtain ⟨⟨q1, q2⟩, q3⟩ := hq
              have q1 := Nat.eq_of_beq_eq_true q1
              subst q1
              unfold oneTy at q2
              split at q2
              · rename_i ei hei
                have q2 := Nat.eq_of_beq_eq_true q2
                split at h
                · rename_i cs' hcs
                  split at h
                  · rename_i bs hbs
                    simp only [Option.some.injEq, Prod.mk.injEq] at h
                    obtain ⟨rfl, rfl⟩ := h
                    obtain ⟨X, k1, _, k3⟩ := hE.dev hx
                    obtain ⟨Y, k4, _, k6⟩ := hE.dev hy
                    obtain ⟨L, hL, rfl⟩ := val_ptr k1
                    have hY := val_int k4
                    obtain ⟨L', Cs, hL', hCs, hlen, hcell⟩ := hR.cellsAt hcs
                    rw [hL] at hL'; injection hL' with hL'; subst hL'
                    have hbv := bytesD_val hbs hCs
                    have hbl : bs.length = m + 1 := by rw [← hlen, hbv]; simp
                    obtain ⟨L0, c0, g1, g2, g3, g4, g5, g6⟩ := hR.cells hb
                    rw [hL] at g1; injection g1 with g1; subst g1
                    obtain ⟨pti, hpti, hptu⟩ := tyUnd_spec hT hpt
                    have hcells1 : P.cellsOf t = 1 := by
                      obtain ⟨x, z, hx1, hx2, _⟩ := (hT.ti hei).infos
                      simp [Program.cellsOf, hx1, hx2, q2]
                    have hoffle : L.base + off + bs.length ≤ c0.size := by
                      have := hcell m
                      have hm : m < Cs.length := by omega
                      have h3 := hcell m Cs[m] (List.getElem?_eq_getElem hm)
                      simp only [World.cell?, g3] at h3
                      have h4 : c0[L.base + off + m]? = some Cs[m] := by simpa using h3
                      have := (Array.getElem?_eq_some_iff.1 h4).1
                      omega
                    have hrun := run_unsafeString_at (P := P) (w := w) pt it o.type t (hpti.ptr hptu) hcells1 L.b (L.base + off) c0.size (by simp [World.shape?, g3]) bs (fun e0 => by subst e0; simp at hbl) hoffle (by omega) (fun j x hj => by
                      rw [Addr.add_lit]
                      exact hcell j _ (by rw [hbv, List.getElem?_map, hj]; rfl))
                    have hYe : a.eval y = .int .i64 bs.length := by rw [k6, hY, hbl]; rfl
                    refine wp_of_value (v := .string ⟨bs.toArray⟩) (w' := w.freeze ⟨L.b, L.base + off, none⟩ bs.length) ?_ (hK σ _ _ (Grow.same _ _ _) rfl ?_)
                    · simp [execOp, hgen, resolve, hc, h1, h2, invoke, builtin, k3, hYe, hrun]
                    · have hfz2 : ∀ g, g ≠ L.b → (w.freeze ⟨L.b, L.base + off, none⟩ bs.length).heap[g]? = w.heap[g]? := fun g hg => by
                        unfold World.freeze
                        split
                        · rfl
                        · simp only [Array.getElem?_modify]
                          rw [if_neg (fun e0 => hg e0.symm)]
                      refine (hR.drop b).other g2 (fun id p K hp hK e0 => ?_) hfz2 (by unfold World.freeze; split <;> simp) (by unfold World.freeze; split <;> rfl) (by unfold World.freeze; split <;> rfl) (by unfold World.freeze; split <;> rfl)
                      simp only [T.get_set] at hp
                      split at hp
                      · cases hp
                      · rename_i hne
                        exact hne (hR.inj id b _ _ K L hp hb hK hL e0)
                  · cases h
                · cases h
              · cases q2
          · cases h
        · cases h
      · cases h
    · rename_i x hc
      split at h
      · rename_i f first cap vs hf hvs
        obtain ⟨F, k1, _, k3⟩ := hE.dev hf
        obtain ⟨Vs, k4, _, k6⟩ := hE.devs hvs
        simp only [val] at k1
        split at k1
        · rename_i A C hA hCap
          simp only [Option.some.injEq] at k1
          subst k1
          have hall := vals_append (vals_append hA k4) hCap
          have e1 : c.args.map a.eval = Vs.toArray := by apply Array.ext'; simpa using k6
          have e2 : (A.toArray ++ Vs.toArray ++ C.toArray) = (A ++ Vs ++ C).toArray := by simp
          split at h
          · rename_i x hx
            obtain ⟨σ', V, w', q1, q2, q3, q4⟩ := hX f x hx _ _ _ _ h G σ w _ hR hall
            refine wp_of_value (v := V) (w' := w') ?_ (hK σ' V w' q1 q3 q4)
            simp only [execOp, hgen, resolve, hc, e1, k3, Deferred.ofValue, Sem.run_bind, Sem.run_pure, Result.andThen_ok, invoke, e2, q2]
          obtain ⟨hent, hcalls⟩ := hC.go _ _ _ _ _ h G σ w _ hR hall
          refine wp_of_enter (w' := w) (f := f) (args := (A ++ Vs ++ C).toArray) ?_ (hcalls.mono fun e w' ⟨σ', V, q1, q2, q3, q4⟩ => ⟨V, q2, hK σ' V w' q1 q3 q4⟩)
          simp only [execOp, hgen, resolve, hc, e1, k3, Deferred.ofValue, Sem.run_bind, Sem.run_pure, Result.andThen_ok, invoke, e2, hent]
        · cases k1
      · cases h
    · cases h
  case convert t u x =>
    split at h
    · rename_i b off hx
      obtain ⟨X, k1, _, k3⟩ := hE.dev hx
      obtain ⟨L, hL, rfl⟩ := val_ptr k1
      split at h
      · rename_i t' sz cs hb
        obtain ⟨L0, c0, g1, g2, g3, g4, g5, g6⟩ := hR.cells hb
        rw [hL] at g1; injection g1 with g1; subst g1
        have hshape : w.shape? (⟨L.b, L.base + off, none⟩ : Addr).block = some (t', c0.size) := by simp [World.shape?, g3]
        split at h
        · rename_i e y hte hu
          split at h
          · rename_i ei hei
            cases hq : (!(Nat.beq ei.size 0) && Nat.blt off cs.length) with
            | false => rw [hq] at h; cases h
            | true =>
              rw [hq] at h
              simp only [cond_true, Option.some.injEq, Prod.mk.injEq] at h
              obtain ⟨rfl, rfl⟩ := h
              simp only [Bool.and_eq_true, Bool.not_eq_true', Nat.blt_eq] at hq
              obtain ⟨q1, q2⟩ := hq
              obtain ⟨ti, hti, htu⟩ := tyUnd_spec hT hte
              obtain ⟨xi, _, hxi, hxs, _⟩ := (hT.ti hei).infos
              have hrun := Lib.run_to_unsafe (P := P) w (src := t) (dst := u) ⟨L.b, L.base + off, none⟩ (hti.ptr htu) (hT.up u y hu) hxi (by rw [hxs]; intro e0; rw [e0] at q1; cases q1) hshape (by show L.base + off < c0.size; omega)
              refine wp_of_value (v := .pointer (some ⟨L.b, L.base + off, none⟩)) (w' := w) ?_ (hK σ _ w (Grow.refl _ _) k1 hR)
              simp [execOp, hgen, k3, hrun]
          · cases h
        · split at h
          · rename_i y e ti' hup hue ht'
            cases hq : (Nat.beq sz 0 && Nat.beq off 0 && Nat.beq cs.length ti'.size && Nat.blt 0 ti'.size && P0.tys.lies.any (fun p => Nat.beq p.1 t' && Nat.beq p.2 e) && (P0.tys.get e).isSome) with
            | false => rw [hq] at h; cases h
            | true =>
              rw [hq] at h
              simp only [cond_true, Option.some.injEq, Prod.mk.injEq] at h
              obtain ⟨rfl, rfl⟩ := h
              simp only [Bool.and_eq_true, Nat.blt_eq] at hq
              obtain ⟨⟨⟨⟨⟨q1, q2⟩, q3⟩, q4⟩, q5⟩, q6⟩ := hq
              have q1 := Nat.eq_of_beq_eq_true q1
              have q2 := Nat.eq_of_beq_eq_true q2
              have q3 := Nat.eq_of_beq_eq_true q3
              subst q1; subst q2
              obtain ⟨p, hp, hpe⟩ := List.any_eq_true.1 q5
              simp only [Bool.and_eq_true] at hpe
              have hp1 := Nat.eq_of_beq_eq_true hpe.1
              have hp2 := Nat.eq_of_beq_eq_true hpe.2
              have hlie := hT.lie p hp
              rw [hp1, hp2] at hlie
              obtain ⟨L9, c9, f1, f2, f3, f4⟩ := hR.exact hb
              rw [hL] at f1; injection f1 with f1; subst f1
              rw [g3] at f2; injection f2 with f2; injection f2 with f2 _; subst f2
              obtain ⟨ei, hei⟩ := Option.isSome_iff_exists.1 q6
              obtain ⟨xi, _, hxi, hxs, _⟩ := (hT.ti hei).infos
              obtain ⟨xt, _, hxt, hxts, _⟩ := (hT.ti ht').infos
              obtain ⟨tu, htu, htuu⟩ := tyUnd_spec hT hue
              have hcells : P.cellsOf t' = ti'.size := by simp [Program.cellsOf, hxt, hxts]
              have hone : c0.size / P.cellsOf t' = 1 := by rw [f4, q3, hcells]; exact Nat.div_self q4
              have hrun := Lib.run_from_unsafe (P := P) w (src := t) (dst := u) ⟨L.b, L.base + 0, none⟩ (hT.up t y hup) (htu.ptr htuu) hxi hshape (by
                rw [hone]
                show liesAt P P.depth t' 1 (L.base + 0) e 1 = true
                rw [f3]; exact hlie)
              refine wp_of_value (v := .pointer (some ⟨L.b, L.base + 0, none⟩)) (w' := w) ?_ (hK σ _ w (Grow.refl _ _) k1 hR)
              simp only [Nat.add_zero] at k3 hrun
              simp [execOp, hgen, k3, hrun]
          · cases h
      · cases h
    · cases h
theorem oper_sound {P0 : Env0} {call : CallF} (hT : TysOk P P0.tys Λs) (hX : ExtsOk P P0) (hC : CallOk P call) (hE : EnvR σ n E a) (hR : Rel G σ s w) {o : Oper} {v : DV} {s' : St} (h : operD P0 call o E s = some (v, s')) {K : Act → World → Prop} {Q : Exit → Act → World → Prop}
    (hK : ∀ σ' V w', Grow s s' σ σ' → val σ' v = some V → Rel G σ' s' w' → K (a.put o.dst V) w') : o.wp P a w K Q := by
  unfold operD at h
  split at h
  · rename_i u hq
    simp only [Option.some.injEq, Prod.mk.injEq] at h
    obtain ⟨rfl, rfl⟩ := h
    obtain ⟨V, h1, h2⟩ := quiet_sound (P := P) hT hE hR hq
    exact wp_of_value h2 (hK σ V w (Grow.refl _ _) h1 hR)
  · split at h
    · rename_i u ob hq
      simp only [Option.some.injEq, Prod.mk.injEq] at h
      obtain ⟨rfl, rfl⟩ := h
      obtain ⟨t, cs, Cs, V, rfl, h2, h3, h4⟩ := alloc_sound (P := P) (σ := σ) (w := w) hT hE hq
      have hal := hR.alloc (t := t) (sz := 0) (cap := 0) (c := Cs.toArray) h2 (fun j V hj => by simpa using hj) (by simp) (fun _ => by simp [vals_length h2])
      exact wp_of_value h4 (hK _ V _ (Grow.add (hR.fresh _ (Nat.le_refl _)) _ rfl) (h3 _ _ (Sg.add_self _ _ _) rfl rfl) hal.2)
    · split at h
      · rename_i t ps hop
        split at h
        · rename_i u hb
          simp only [Option.some.injEq, Prod.mk.injEq] at h
          obtain ⟨rfl, rfl⟩ := h
          obtain ⟨V, h1, h2⟩ := build_sound (P := P) (w := w) hT hE hb hop
          exact wp_of_value h2 (hK σ V w (Grow.refl _ _) h1 hR)
        · cases h
      · exact loud_sound hT hX hC hE hR h hK
end
end Go.D
