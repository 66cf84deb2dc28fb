/- Appends; bytes that become a string. -/
import Derived.Test.YtjbcafbeafhdpaaGreatDoorD7
set_option maxRecDepth 10000
set_option linter.unusedVariables false
set_option linter.unusedSimpArgs false
namespace Go.D
open Go.SL Go.RowKit
section
variable {P : Program} {Λ : Tys} {Λs : Lay} {σ : Sg} {G : Gh} {n : Nat} {E : DE} {s : St} {a : Act} {w : World}
/-- An argument's type that is no integer's. -/
def NoInt (P : Program) (u : TypeId) : Prop := P.underlying u = some .string ∨ ∃ e, P.underlying u = some (.slice e)
theorem seqTy_noInt (hT : TysOk P Λ Λs) {u : Nat} (h : seqTy Λ u = true) : NoInt P u := by
  unfold seqTy at h
  split at h
  · rename_i hu
    obtain ⟨i, hi, hiu⟩ := tyUnd_spec hT hu
    exact .inl (hi.string hiu)
  · rename_i e hu
    obtain ⟨i, hi, hiu⟩ := tyUnd_spec hT hu
    exact .inr ⟨e, hi.slice hiu⟩
  · cases h
theorem run_app_in {t u ty e : TypeId} {i : TypeInfo} (ht : P.underlying t = some (.slice e)) (hu : NoInt P u) (hi : P.info? e = some i) {base : Option Addr} {sLen sCap m : Nat} {Y : Value} {news : List Value} (hs : Src P w i.size Y m news) (hroom : sLen + m ≤ sCap) :
    (Builtin.append_ #[t, u] ty #[.slice base sLen sCap, Y]).run P w = (do (if let some a := base then storeCells (a.add (sLen * i.size)) news else pure ()); pure (.slice base (sLen + m) sCap) : Sem Value).run P w := by
  have h1 := hs.len
  have h2 := hs.cells w rfl
  rcases hu with hu | ⟨e', hu⟩ <;> cases base <;> simp [Builtin.append_, run_underlying ht, run_underlying hu, sizeOf, typeInfo, hi, h1, h2, hroom]
theorem run_app_grow {t u ty e : TypeId} {i : TypeInfo} {z : Value} (ht : P.underlying t = some (.slice e)) (hu : NoInt P u) (hi : P.info? e = some i) (hz : i.zero = some z) {base : Option Addr} {sLen sCap m : Nat} {Y : Value} {olds news : List Value} (hs : Src P w i.size Y m news)
    (ho : ∀ w', w'.heap = w.heap → (Builtin.firstCells i.size sLen (.slice base sLen sCap)).run P w' = .ok olds.toArray w') (hg : sCap < sLen + m) (h63 : sLen + m ≤ 1048576) (hfit : Builtin.nextslicecap (sLen + m) sCap * i.bytes ≤ 281474976710656) :
    (Builtin.append_ #[t, u] ty #[.slice base sLen sCap, Y]).run P w = .ok (.slice (some ⟨w.heap.size, 0, none⟩) (sLen + m) (grownCap w (sLen + m) sCap e))
      (w.drew.alloc (.cells (olds.toArray ++ news.toArray ++ Builtin.zeroCells z.cells (grownCap w (sLen + m) sCap e - (sLen + m))) e)) := by
  have h1 := hs.len
  have h2 := hs.cells w.drew rfl
  have h3 := ho w.drew rfl
  have hn : ¬ (sLen + m ≤ sCap) := by omega
  have h63' : ¬ (9223372036854775807 < ((sLen : Int) + (m : Int))) := by omega
  have h48' : ¬ (281474976710656 < Builtin.nextslicecap (sLen + m) sCap * i.bytes) := by omega
  rcases hu with hu | ⟨e', hu⟩
  all_goals
    simp [Builtin.append_, run_underlying ht, run_underlying hu, sizeOf, typeInfo, zeroValue, hi, hz, h1, hn, h63', h48', Question.forced, h2, h3, newRow, grownCap]
    congr 2
    apply Array.ext'
    simp [List.append_assoc]
theorem append_sound (hT : TysOk P Λ Λs) (hR : Rel G σ s w) {t u : Nat} {x y v : DV} {s' : St} {X Y : Value} (hx : val σ x = some X) (hy : val σ y = some Y) (h : appendD Λ s t u x y = some (v, s')) (ty : TypeId) :
    ∃ σ' V w', Grow s s' σ σ' ∧ val σ' v = some V ∧ (Builtin.append_ #[t, u] ty #[X, Y]).run P w = .ok V w' ∧ Rel G σ' s' w' := by
  unfold appendD at h
  cases hseq : seqTy Λ u with
  | false => rw [hseq] at h; cases h
  | true =>
  have hNo := seqTy_noInt hT hseq
  rw [hseq] at h
  simp only [Bool.not_true, cond_false] at h
  split at h
  · rename_i e hu
    obtain ⟨ti, hti, htu⟩ := tyUnd_spec hT hu
    have ht := hti.slice htu
    split at h
    · rename_i ei hei
      obtain ⟨i, z, hi, hsize, hbytes, hz, hzl⟩ := (hT.ti hei).infos
      split at h
      · rename_i m news hsrc
        rw [← hsize] at hsrc
        obtain ⟨News, hNews, hSrc⟩ := src_sound (P := P) hR hy hsrc
        have hNl := vals_length hNews
        cases hm : Nat.beq m 0 with
        | true =>
          have hm0 := Nat.eq_of_beq_eq_true hm
          subst hm0
          rw [hm] at h
          simp only [cond_true] at h
          split at h
          · rename_i A len cap
            simp only [Option.some.injEq, Prod.mk.injEq] at h
            obtain ⟨rfl, rfl⟩ := h
            have hnil : News = [] := List.eq_nil_of_length_eq_zero (by rw [hSrc.size]; simp)
            subst hnil
            have key : ∀ (q : Option Addr) (k : Nat), len ≤ k → X = .slice q len k → (Builtin.append_ #[t, u] ty #[X, Y]).run P w = .ok X w := by
              intro q k hk hX
              subst hX
              rw [run_app_in ht hNo hi hSrc (by omega)]
              cases q <;> simp [storeCells]
            cases A with
            | none =>
              obtain ⟨k, _, hk, hX⟩ := val_slice_nil hx
              exact ⟨σ, X, w, Grow.refl _ _, hx, key _ k hk hX, hR⟩
            | some A =>
              obtain ⟨b, o⟩ := A
              obtain ⟨L, _, hk, hX⟩ := val_slice hx
              exact ⟨σ, X, w, Grow.refl _ _, hx, key _ _ hk hX, hR⟩
          · cases h
        | false =>
          have hm0 : m ≠ 0 := fun e0 => by subst e0; cases hm
          rw [hm] at h
          simp only [cond_false] at h
          cases hc : (Nat.blt 0 ei.size && Nat.ble ei.bytes 128 && Nat.beq ei.zero.length ei.size && news.all DV.one) with
          | false => rw [hc] at h; cases h
          | true =>
            rw [hc] at h
            simp only [Bool.not_true, cond_false] at h
            simp only [Bool.and_eq_true, Nat.ble_eq, Nat.blt_eq, List.all_eq_true] at hc
            obtain ⟨⟨⟨c1, c2⟩, c3⟩, c4⟩ := hc
            have c3 := Nat.eq_of_beq_eq_true c3
            have hzs : z.cells.size = i.size := by rw [hsize, ← c3, ← hzl]; simp
            have hone : ∀ V ∈ News, V.oneCell' = true := fun V hV => by
              obtain ⟨j, hj⟩ := List.getElem?_of_mem hV
              obtain ⟨q, hq, hqV⟩ := vals_get' j hNews hj
              exact val_one hqV (c4 q (List.mem_of_getElem? hq))
            have fits : ∀ (need old : Nat), old < need → need ≤ 1048576 → Builtin.nextslicecap need old * i.bytes ≤ 281474976710656 := fun need old h1 h2 => growslice_fits h1 (by
              rw [hbytes]
              have : need * ei.bytes ≤ 1048576 * 128 := Nat.mul_le_mul h2 c2
              omega)
            -- a new block
            have grown : ∀ (base : Option Addr) (len cap : Nat) (st : St) (olds : List DV) (Olds : List Value), Rel G σ st w → st.nx = s.nx → X = .slice base len cap → vals σ olds = some Olds → Olds.length = len * i.size →
                (∀ w', w'.heap = w.heap → (Builtin.firstCells i.size len (.slice base len cap)).run P w' = .ok Olds.toArray w') → cap < len + m → len + m ≤ 1048576 →
                ∃ σ' V w', Grow s ⟨st.h.set s.nx (some (.cells e ei.size (olds ++ news))), s.nx + 1⟩ σ σ' ∧ val σ' (.slice (some (s.nx, 0)) (len + m) (.rest 0 0)) = some V ∧ (Builtin.append_ #[t, u] ty #[X, Y]).run P w = .ok V w' ∧ Rel G σ' ⟨st.h.set s.nx (some (.cells e ei.size (olds ++ news))), s.nx + 1⟩ w' := by
              intro base len cap st olds Olds hRs hnx hX hOlds hOl hfo hgr hsm
              subst hX
              have hrun := run_app_grow (P := P) (w := w) (ty := ty) ht hNo hi hz hSrc hfo hgr hsm (fits _ _ hgr hsm)
              have hge := grownCap_ge w (len + m) cap e
              generalize hC : grownCap w (len + m) cap e = C at *
              have hdr : Rel G σ st w.drew := hRs.drawn _
              have hall := hdr.alloc (t := e) (sz := ei.size) (cap := C) (c := Olds.toArray ++ News.toArray ++ Builtin.zeroCells z.cells (C - (len + m))) (vals_append hOlds hNews) (fun j V hj => by
                have hj' := (List.getElem?_eq_some_iff.1 hj).1
                have e1 : (Olds.toArray ++ News.toArray) = (Olds ++ News).toArray := by simp
                rw [e1, Array.getElem?_append_left (by simpa using hj')]
                simpa using hj) (by
                simp only [Array.size_append, List.size_toArray, size_zeroCells, hzs, hOl, hSrc.size, ← hsize, ← Nat.add_mul]
                exact Nat.mul_le_mul_right _ (by omega)) (fun hz => absurd hz (by omega))
              rw [hnx] at hall
              refine ⟨_, _, _, Grow.add (hR.fresh _ (Nat.le_refl _)) _ rfl, ?_, hrun, hall.2⟩
              rw [val_slice_of (Sg.add_self _ _ _) (by simp only [Cap.at_]; omega)]
              have e1 : w.drew.heap.size = w.heap.size := rfl
              by_cases hC0 : C = 0
              · simp [Cap.at_, Cap.off, e1]
              · simp [Cap.at_, Cap.off, e1]
            split at h
            · rename_i len cap
              cases hq : (Nat.beq len 0 && decide (cap = .known 0) && Nat.ble m 1048576) with
              | false => rw [hq] at h; cases h
              | true =>
                rw [hq] at h
                simp only [cond_true, Option.some.injEq, Prod.mk.injEq] at h
                obtain ⟨rfl, rfl⟩ := h
                simp only [Bool.and_eq_true, decide_eq_true_eq, Nat.ble_eq] at hq
                obtain ⟨⟨q1, rfl⟩, q3⟩ := hq
                have q1 := Nat.eq_of_beq_eq_true q1
                subst q1
                obtain ⟨k, hk, _, hX⟩ := val_slice_nil hx
                injection hk with hk; subst hk
                have := grown none 0 0 s [] [] hR rfl hX rfl (by simp) (fun w' _ => by simp [Builtin.firstCells]) (by omega) (by omega)
                simpa using this
            · rename_i b o len cap
              split at h
              · rename_i e' sz cs hb
                cases hq : (Nat.ble (o + len * ei.size) cs.length && Nat.ble (len + m) 1048576) with
                | false => rw [hq] at h; cases h
                | true =>
                  rw [hq] at h
                  simp only [Bool.not_true, cond_false] at h
                  simp only [Bool.and_eq_true, Nat.ble_eq] at hq
                  obtain ⟨q1, q2⟩ := hq
                  obtain ⟨L, hL, hle, hX⟩ := val_slice hx
                  obtain ⟨L0, c, g1, g2, g3, g4, g5, g6⟩ := hR.cells hb
                  rw [hL] at g1; injection g1 with g1; subst g1
                  -- the elements that are there
                  have hcs : vals σ cs = some ((c.toList.drop L.base).take cs.length) := by
                    refine vals_of_get (by simp; omega) fun j v hj => ?_
                    obtain ⟨V, k1, k2⟩ := g6 j v hj
                    have hj' : j < cs.length := (List.getElem?_eq_some_iff.1 hj).1
                    exact ⟨V, k1, by rw [List.getElem?_take_of_lt hj', List.getElem?_drop]; simpa using k2⟩
                  have hold := vals_take (vals_drop hcs o) (len * ei.size)
                  generalize hOlds : ((((c.toList.drop L.base).take cs.length).drop o).take (len * ei.size)) = Olds at hold
                  have hOl : Olds.length = len * i.size := by
                    rw [hsize, vals_length hold]; simp; omega
                  have hoget : ∀ (j : Nat) (V : Value), Olds[j]? = some V → c[L.base + o + j]? = some V := by
                    intro j V hj
                    rw [← hOlds, List.getElem?_take] at hj
                    split at hj
                    · rw [List.getElem?_drop, List.getElem?_take] at hj
                      split at hj
                      · rw [List.getElem?_drop] at hj
                        rw [show L.base + o + j = L.base + (o + j) by omega]
                        simpa using hj
                      · cases hj
                    · cases hj
                  have hoff : 0 < len → cap.off L o = o := by
                    intro hpos
                    cases cap with
                    | known c => rfl
                    | rest q alt =>
                      simp only [Cap.at_] at hle
                      simp only [Cap.off]
                      rw [if_neg (by omega)]
                  have hfo : ∀ w', w'.heap = w.heap → (Builtin.firstCells i.size len (.slice (some ⟨L.b, L.base + cap.off L o, none⟩) len (cap.at_ L))).run P w' = .ok Olds.toArray w' := by
                    intro w' hw
                    refine run_firstCells_some (P := P) w' i.size len _ len _ Olds hOl fun j V hj => ?_
                    have hpos : 0 < len := by
                      rcases Nat.eq_zero_or_pos len with e0 | e0
                      · subst e0
                        have hj' := (List.getElem?_eq_some_iff.1 hj).1
                        rw [hOl] at hj'; simp at hj'
                      · exact e0
                    rw [hoff hpos, Addr.add_lit]
                    simp only [World.cell?, hw, g3]
                    simpa using hoget j V hj
                  split at h
                  · rename_i k
                    cases hkc : Nat.ble (len + m) k with
                    | true => rw [hkc] at h; cases h
                    | false =>
                      rw [hkc] at h
                      simp only [cond_false, Option.some.injEq, Prod.mk.injEq] at h
                      obtain ⟨rfl, rfl⟩ := h
                      have hkc' : k < len + m := by
                        rcases Nat.lt_or_ge k (len + m) with h1 | h1
                        · exact h1
                        · have h1' : Nat.ble (len + m) k = true := by rw [Nat.ble_eq]; exact h1
                          rw [h1'] at hkc; cases hkc
                      exact grown _ len k s _ Olds hR rfl hX hold hOl hfo hkc' q2
                  · rename_i k alt
                    cases hq2 : (Nat.beq sz ei.size && Nat.beq e e' && Nat.beq o (k * sz)) with
                    | false => rw [hq2] at h; cases h
                    | true =>
                      rw [hq2] at h
                      simp only [cond_true, Option.some.injEq, Prod.mk.injEq] at h
                      obtain ⟨rfl, rfl⟩ := h
                      simp only [Bool.and_eq_true] at hq2
                      obtain ⟨⟨r1, r2⟩, r3⟩ := hq2
                      have r1 := Nat.eq_of_beq_eq_true r1
                      have r2 := Nat.eq_of_beq_eq_true r2
                      have r3 := Nat.eq_of_beq_eq_true r3
                      subst r1; subst r2; subst r3
                      simp only [Cap.at_] at hle hX hfo
                      have hRd := hR.drop b
                      by_cases hroom : len + m ≤ L.cap - k
                      · -- in place
                        have hne : ¬ L.cap = k := by omega
                        have hoff2 : Cap.off L (k * ei.size) (.rest k alt) = k * ei.size := by simp only [Cap.off]; rw [if_neg hne]
                        rw [hoff2] at hX
                        have hfit : L.base + k * ei.size + len * ei.size + News.length ≤ c.size := by
                          have h1 : (k + len + m) * ei.size ≤ L.cap * ei.size := Nat.mul_le_mul_right _ (by omega)
                          rw [hSrc.size, hsize]
                          simp only [Nat.add_mul] at h1
                          omega
                        have hst := run_storeCells_at P L.b (L.base + k * ei.size + len * ei.size) e News 0 c w g3 (by omega) hone
                        simp only [Nat.add_zero] at hst
                        have hrun : (Builtin.append_ #[t, u] ty #[X, Y]).run P w = .ok (.slice (some ⟨L.b, L.base + k * ei.size, none⟩) (len + m) (L.cap - k)) (w.setRow L.b (c.toList.take (L.base + k * ei.size + len * ei.size) ++ News ++ c.toList.drop (L.base + k * ei.size + len * ei.size + News.length)).toArray) := by
                          rw [hX, run_app_in ht hNo hi hSrc hroom]
                          simp only [Addr.add_lit, hsize]
                          simp [hst]
                        have hdead : (s.h.set b none).get b = none := by rw [T.get_set]; simp
                        have hnx : σ s.nx = none := hR.fresh _ (Nat.le_refl _)
                        have hbnx : b ≠ s.nx := fun e0 => by subst e0; rw [hnx] at hL; cases hL
                        have hleσ := Sg.le_add (i := s.nx) ⟨L.b, L.base + k * ei.size, L.cap - k⟩ hnx
                        refine ⟨_, _, _, Grow.add hnx ⟨L.b, L.base + k * ei.size, L.cap - k⟩ rfl, ?_, hrun, ?_⟩
                        · rw [val_slice_of (Sg.add_self _ _ _) (by simp only [Cap.at_]; omega)]
                          simp only [Cap.at_, Cap.off]
                          have : ¬ L.cap - k = 0 := by omega
                          simp [this]
                        · have hσ : ∀ j, j ≠ s.nx → (σ.add s.nx ⟨L.b, L.base + k * ei.size, L.cap - k⟩) j = σ j := fun j hj => by simp [Sg.add, hj]
                          have hothers : ∀ id p, (s.h.set b none).get id = some p → id ≠ b ∧ s.h.get id = some p := fun id p hp => by
                            rw [T.get_set] at hp
                            split at hp
                            · cases hp
                            · rename_i e1; exact ⟨e1, hp⟩
                          have hLsz : L.b < w.heap.size := (Array.getElem?_eq_some_iff.1 g3).1
                          refine ⟨fun x y hxy => ?_, hR.os, hR.tape, hR.output, fun id p hp => ?_, fun id id' p p' K K' hp hp' hK hK' eK => ?_, fun id hid => ?_⟩
                          · have hxne : x ≠ L.b := fun e0 => by subst e0; rw [g2] at hxy; cases hxy
                            rw [setRow_other w L.b x _ hxne]
                            exact hR.ghost x y hxy
                          · simp only [T.get_set] at hp
                            by_cases hid : id = s.nx
                            · subst hid
                              simp only [if_true, Option.some.injEq] at hp
                              subst hp
                              refine ⟨_, Sg.add_self _ _ _, g2, by simpa using hLsz, _, setRow_heap w L.b c _ e (0, 0) g3, ?_, ?_, fun hz => absurd hz (by omega), fun j v hj => ?_⟩
                              · have h2 : ((cs.drop (k * ei.size)).take (len * ei.size)).length = len * ei.size := by simp; omega
                                simp only [List.length_append, h2, ← hNl, List.size_toArray, List.length_take, List.length_drop, Array.length_toList]
                                omega
                              · have h1 : (L.cap - k) * ei.size + k * ei.size = L.cap * ei.size := by rw [← Nat.add_mul]; congr 1; omega
                                simp only [List.length_append, List.size_toArray, List.length_take, List.length_drop, Array.length_toList]
                                omega
                              · obtain ⟨V, k1, k2⟩ := vals_get j (vals_append hold hNews) hj
                                refine ⟨V, val_mono hleσ k1, ?_⟩
                                simp only [List.getElem?_toArray]
                                have hj2 := (List.getElem?_eq_some_iff.1 k2).1
                                rw [List.length_append, hOl, hsize] at hj2
                                by_cases h2 : j < len * ei.size
                                · rw [List.getElem?_append_left (by rw [hOl, hsize]; exact h2)] at k2
                                  have := hoget j V k2
                                  rw [List.append_assoc, List.getElem?_append_left (by simp; omega), List.getElem?_take_of_lt (by omega)]
                                  simpa using this
                                · rw [List.getElem?_append_right (by rw [hOl, hsize]; omega), hOl, hsize] at k2
                                  rw [List.append_assoc, List.getElem?_append_right (by simp; omega), List.getElem?_append_left (by simp; omega), ← k2]
                                  congr 1; simp; omega
                            · rw [if_neg hid] at hp
                              have hidb : id ≠ b := fun e0 => by rw [if_pos e0] at hp; cases hp
                              rw [if_neg hidb] at hp
                              obtain ⟨K, k1, k2, k3, k4⟩ := hR.live id p hp
                              refine ⟨K, by rw [hσ id hid]; exact k1, k2, by simpa using k3, k4.of hleσ (setRow_other w L.b K.b _ fun e0 => hidb ?_)⟩
                              exact hR.inj id b _ _ K L hp hb k1 hL e0
                          · simp only [T.get_set] at hp hp'
                            have other : ∀ id p K, id ≠ s.nx → (if id = s.nx then some (DObj.cells e ei.size ((cs.drop (k * ei.size)).take (len * ei.size) ++ news)) else (if id = b then none else s.h.get id)) = some p → (σ.add s.nx ⟨L.b, L.base + k * ei.size, L.cap - k⟩) id = some K → K.b ≠ L.b := by
                              intro id p K hid hp hK e0
                              rw [if_neg hid] at hp
                              split at hp
                              · cases hp
                              · rename_i hidb
                                rw [hσ id hid] at hK
                                exact hidb (hR.inj id b _ _ K L hp hb hK hL e0)
                            by_cases h1 : id = s.nx <;> by_cases h2 : id' = s.nx
                            · rw [h1, h2]
                            · subst h1
                              rw [Sg.add_self] at hK; injection hK with hK; subst hK
                              exact absurd eK.symm (other id' p' K' h2 hp' hK')
                            · subst h2
                              rw [Sg.add_self] at hK'; injection hK' with hK'; subst hK'
                              exact absurd eK (other id p K h1 hp hK)
                            · rw [if_neg h1] at hp
                              rw [if_neg h2] at hp'
                              rw [hσ id h1] at hK
                              rw [hσ id' h2] at hK'
                              split at hp
                              · cases hp
                              · split at hp'
                                · cases hp'
                                · exact hR.inj id id' _ _ K K' hp hp' hK hK' eK
                          · have : s.nx + 1 ≤ id := hid
                            rw [hσ id (by omega)]
                            exact hR.fresh id (by omega)
                      · exact grown _ len (L.cap - k) ⟨s.h.set b none, s.nx⟩ _ Olds hRd rfl hX hold hOl hfo (by omega) q2
              · cases h
            · cases h
      · cases h
    · cases h
  · cases h
end
end Go.D
