/- Operations that turn memory: a new block, a store, an append. -/
import Derived.Test.YtjbcafbeafhdpaaGreatDoorD6
set_option maxRecDepth 10000
set_option linter.unusedVariables false
set_option linter.unusedSimpArgs false
namespace Go.D
open Go.SL Go.RowKit
section
variable {P : Program} {Λ : Tys} {Λs : Lay} {σ : Sg} {G : Gh} {n : Nat} {E : DE} {s : St} {a : Act} {w : World}
def Sg.add (σ : Sg) (i : Nat) (L : Loc) : Sg := fun j => if j = i then some L else σ j
theorem Sg.add_self (σ : Sg) (i : Nat) (L : Loc) : σ.add i L i = some L := by simp [Sg.add]
theorem Sg.le_add {σ : Sg} {i : Nat} (L : Loc) (h : σ i = none) : σ.le (σ.add i L) := fun j K hj => by
  unfold Sg.add
  by_cases e : j = i
  · subst e; rw [h] at hj; cases hj
  · rw [if_neg e]; exact hj
/-- What an evaluation turns of a renaming: new numbers alone. -/
structure Grow (s s' : St) (σ σ' : Sg) : Prop where
  le : σ.le σ'
  low : ∀ i, i < s.nx → σ' i = σ i
  nx : s.nx ≤ s'.nx
theorem Grow.refl (s : St) (σ : Sg) : Grow s s σ σ := ⟨Sg.le_refl _, fun _ _ => rfl, Nat.le_refl _⟩
theorem Grow.trans {s s' s'' : St} {σ σ' σ'' : Sg} (h : Grow s s' σ σ') (k : Grow s' s'' σ' σ'') : Grow s s'' σ σ'' :=
  ⟨Sg.le_trans h.le k.le, fun i hi => (k.low i (Nat.lt_of_lt_of_le hi h.nx)).trans (h.low i hi), Nat.le_trans h.nx k.nx⟩
theorem Grow.same (s : St) (h : T DObj) (σ : Sg) : Grow s ⟨h, s.nx⟩ σ σ := ⟨Sg.le_refl _, fun _ _ => rfl, Nat.le_refl _⟩
theorem Grow.add {s s' : St} {σ : Sg} (hf : σ s.nx = none) (L : Loc) (h : s'.nx = s.nx + 1) : Grow s s' σ (σ.add s.nx L) := ⟨Sg.le_add L hf, fun i hi => by simp [Sg.add]; intro e; omega, by omega⟩
theorem entriesR_mono {σ' : Sg} (h : σ.le σ') : ∀ {es : List (DV × DV × Nat)} {Es : List MapEntry}, entriesR σ es Es → entriesR σ' es Es
  | [], [], _ => trivial
  | [], _ :: _, h' => h'.elim
  | _ :: _, [], h' => by cases h'
  | (k, v, t) :: r, e :: s, h' => by
    obtain ⟨h1, h2, h3, h4⟩ := h'
    exact ⟨val_mono h h1, val_mono h h2, h3, entriesR_mono h h4⟩
theorem Holds.of {σ' : Sg} {L : Loc} {w' : World} {o : DObj} (hs : σ.le σ') (hk : w'.heap[L.b]? = w.heap[L.b]?) (h : Holds σ L w o) : Holds σ' L w' o := by
  cases o with
  | cells t sz cs =>
    obtain ⟨c, h1, h2, h3, h4⟩ := h
    exact ⟨c, hk.trans h1, h2, h3, h4.1, fun j v hj => let ⟨V, k1, k2⟩ := h4.2 j v hj; ⟨V, val_mono hs k1, k2⟩⟩
  | map es clock =>
    obtain ⟨es', h1, h2⟩ := h
    exact ⟨es', hk.trans h1, entriesR_mono hs h2⟩
/-- Drawn answers do not count. -/
theorem Rel.drawn (h : Rel G σ s w) (k : Nat) : Rel G σ s { w with drawn := k } :=
  ⟨h.ghost, h.os, h.tape, h.output, fun id o ho => let ⟨L, h1, h2, h3, h4⟩ := h.live id o ho; ⟨L, h1, h2, h3, h4.of (Sg.le_refl _) rfl⟩, h.inj, h.fresh⟩
/-- A new block. -/
theorem Rel.alloc (h : Rel G σ s w) {t sz cap : Nat} {cs : List DV} {Cs : List Value} {c : Array Value} (hc : vals σ cs = some Cs) (hpre : ∀ (j : Nat) (V : Value), Cs[j]? = some V → c[j]? = some V) (hcap : cap * sz ≤ c.size) (hex : sz = 0 → c.size = cs.length) :
    σ.le (σ.add s.nx ⟨w.heap.size, 0, cap⟩) ∧ Rel G (σ.add s.nx ⟨w.heap.size, 0, cap⟩) ⟨s.h.set s.nx (some (.cells t sz cs)), s.nx + 1⟩ (w.alloc (.cells c t)) := by
  have hle := Sg.le_add ⟨w.heap.size, 0, cap⟩ (h.fresh s.nx (Nat.le_refl _))
  have hnx : s.h.get s.nx = none := by
    cases hg : s.h.get s.nx with
    | none => rfl
    | some o => obtain ⟨L, h1, _⟩ := h.live _ _ hg; rw [h.fresh s.nx (Nat.le_refl _)] at h1; cases h1
  have hold : ∀ b, b < w.heap.size → (w.alloc (.cells c t)).heap[b]? = w.heap[b]? := fun b hb => by show (w.heap.push _)[b]? = _; rw [Array.getElem?_push_lt hb, Array.getElem?_eq_getElem hb]
  have hσ : ∀ i, i ≠ s.nx → (σ.add s.nx ⟨w.heap.size, 0, cap⟩) i = σ i := fun i hi => by simp [Sg.add, hi]
  refine ⟨hle, ⟨fun b o hb => ?_, h.os, h.tape, h.output, fun id o ho => ?_, fun id id' o o' L L' ho ho' hL hL' e => ?_, fun id hid => ?_⟩⟩
  · have := h.ghost b o hb
    rw [hold b (Array.getElem?_eq_some_iff.1 this).1]; exact this
  · simp only [T.get_set] at ho
    by_cases e : id = s.nx
    · subst e
      simp only [if_true, Option.some.injEq] at ho
      subst ho
      refine ⟨_, Sg.add_self _ _ _, ?_, by simp, ?_⟩
      · cases hg : G.objs w.heap.size with
        | none => rfl
        | some o => have := h.ghost _ _ hg; have := (Array.getElem?_eq_some_iff.1 this).1; omega
      · have hlen : cs.length ≤ c.size := by
          rw [← vals_length hc]
          cases hl : Cs.length with
          | zero => omega
          | succ m =>
            have hm : m < Cs.length := by omega
            have := hpre m Cs[m] (List.getElem?_eq_getElem hm)
            have := (Array.getElem?_eq_some_iff.1 this).1
            omega
        refine ⟨c, heap_alloc_new w _, by simpa using hlen, by simpa using hcap, fun hz => ⟨rfl, hex hz⟩, fun j v hj => ?_⟩
        obtain ⟨V, k1, k2⟩ := vals_get j hc hj
        exact ⟨V, val_mono hle k1, by simpa using hpre j V k2⟩
    · rw [if_neg e] at ho
      obtain ⟨L, h1, h2, h3, h4⟩ := h.live id o ho
      exact ⟨L, by rw [hσ id e]; exact h1, h2, by simp; omega, h4.of hle (hold _ h3)⟩
  · simp only [T.get_set] at ho ho'
    by_cases e1 : id = s.nx
    · by_cases e2 : id' = s.nx
      · rw [e1, e2]
      · rw [if_neg e2] at ho'
        rw [hσ id' e2] at hL'
        obtain ⟨L2, g1, _, g3, _⟩ := h.live id' o' ho'
        rw [g1] at hL'; injection hL' with hL'; subst hL'
        subst e1
        rw [Sg.add_self] at hL; injection hL with hL; subst hL
        simp only at e
        omega
    · rw [if_neg e1] at ho
      rw [hσ id e1] at hL
      by_cases e2 : id' = s.nx
      · obtain ⟨L2, g1, _, g3, _⟩ := h.live id o ho
        rw [g1] at hL; injection hL with hL; subst hL
        subst e2
        rw [Sg.add_self] at hL'; injection hL' with hL'; subst hL'
        simp only at e
        omega
      · rw [if_neg e2] at ho'
        rw [hσ id' e2] at hL'
        exact h.inj id id' o o' L L' ho ho' hL hL' e
  · have : s.nx + 1 ≤ id := hid
    rw [hσ id (by omega)]
    exact h.fresh id (by omega)
/-- A block is let go. -/
theorem Rel.drop (h : Rel G σ s w) (b : Nat) : Rel G σ ⟨s.h.set b none, s.nx⟩ w := by
  have hg : ∀ id o, (s.h.set b none).get id = some o → s.h.get id = some o := fun id o ho => by
    rw [T.get_set] at ho
    split at ho
    · cases ho
    · exact ho
  exact ⟨h.ghost, h.os, h.tape, h.output, fun id o ho => h.live id o (hg id o ho), fun id id' o o' L L' ho ho' => h.inj id id' o o' L L' (hg _ _ ho) (hg _ _ ho'), h.fresh⟩
/-- One block written. -/
theorem Rel.turn (h : Rel G σ s w) {b : Nat} {o o' : DObj} {L : Loc} {w' : World} (hb : s.h.get b = some o) (hL : σ b = some L) (hh : Holds σ L w' o') (hk : ∀ g, g ≠ L.b → w'.heap[g]? = w.heap[g]?) (hsz : w'.heap.size = w.heap.size)
    (hos : w'.os = w.os) (htp : w'.tape = w.tape) (hout : w'.output = w.output) : Rel G σ ⟨s.h.set b (some o'), s.nx⟩ w' := by
  obtain ⟨L0, g1, g2, g3, g4⟩ := h.live b o hb
  rw [hL] at g1; injection g1 with g1; subst g1
  have hneG : ∀ x y, G.objs x = some y → x ≠ L.b := fun x y hx e => by subst e; rw [g2] at hx; cases hx
  have hget : ∀ id q, (s.h.set b (some o')).get id = some q → (id = b ∧ q = o') ∨ (id ≠ b ∧ s.h.get id = some q) := fun id q hq => by
    rw [T.get_set] at hq
    split at hq
    · rename_i e; injection hq with hq; exact .inl ⟨e, hq.symm⟩
    · rename_i e; exact .inr ⟨e, hq⟩
  refine ⟨fun x y hx => (hk x (hneG x y hx)).trans (h.ghost x y hx), hos.trans h.os, htp.trans h.tape, hout.trans h.output, fun id q hq => ?_, fun id id' q q' K K' hq hq' hK hK' e => ?_, h.fresh⟩
  · rcases hget id q hq with ⟨rfl, rfl⟩ | ⟨hne, hq⟩
    · exact ⟨L, hL, g2, by omega, hh⟩
    · obtain ⟨K, k1, k2, k3, k4⟩ := h.live id q hq
      refine ⟨K, k1, k2, by omega, k4.of (Sg.le_refl _) (hk _ fun e => hne ?_)⟩
      exact h.inj id b q o K L hq hb k1 hL e
  · have hold : ∀ {i : Nat} {p : DObj}, (s.h.set b (some o')).get i = some p → ∃ p', s.h.get i = some p' := fun {i p} hp => by
      rcases hget i p hp with ⟨e1, _⟩ | ⟨_, e2⟩
      · exact ⟨o, e1 ▸ hb⟩
      · exact ⟨p, e2⟩
    obtain ⟨p, hp⟩ := hold hq
    obtain ⟨p', hp'⟩ := hold hq'
    exact h.inj _ _ _ _ _ _ hp hp' hK hK' e
theorem setL_list (vs cs : List Value) (p : Nat) (h : p + vs.length ≤ cs.length) : setL cs p vs = cs.take p ++ vs ++ cs.drop (p + vs.length) := by
  apply List.ext_getElem?
  intro j
  rw [setL_get vs cs p h j]
  by_cases h1 : j < p
  · rw [if_neg (by omega), List.append_assoc, List.getElem?_append_left (by simp; omega), List.getElem?_take_of_lt h1]
  · by_cases h2 : j < p + vs.length
    · rw [if_pos ⟨by omega, h2⟩, List.append_assoc, List.getElem?_append_right (by simp; omega), List.getElem?_append_left (by simp; omega)]
      congr 1; simp; omega
    · rw [if_neg (by omega), List.append_assoc, List.getElem?_append_right (by simp; omega), List.getElem?_append_right (by simp; omega), List.getElem?_drop]
      congr 1; simp; omega
/-- Cells written within a live block. -/
theorem Rel.write (h : Rel G σ s w) {b t sz o : Nat} {cs vs : List DV} {Vs : List Value} {L : Loc} (hb : s.h.get b = some (.cells t sz cs)) (hL : σ b = some L) (hv : vals σ vs = some Vs) (hlen : o + vs.length ≤ cs.length) (h1 : ∀ V ∈ Vs, V.oneCell' = true) :
    ∃ w', (storeCells ⟨L.b, L.base + o, none⟩ Vs).run P w = .ok () w' ∧ Rel G σ ⟨s.h.set b (some (.cells t sz (setD cs o vs))), s.nx⟩ w' := by
  obtain ⟨L0, c, g1, g2, g3, g4, g5, g6⟩ := h.cells hb
  rw [hL] at g1; injection g1 with g1; subst g1
  have hVl := vals_length hv
  have hrun := run_storeCells_at P L.b (L.base + o) t Vs 0 c w g3 (by omega) h1
  simp only [Nat.add_zero] at hrun
  have hex : sz = 0 → L.base = 0 ∧ c.size = cs.length := by
    obtain ⟨L9, k1, _, _, c9, k3, _, _, k7, _⟩ := h.live b _ hb
    rw [hL] at k1; injection k1 with k1; subst k1
    rw [g3] at k3; injection k3 with k3; injection k3 with k3 _; subst k3
    exact k7
  refine ⟨_, hrun, h.turn hb hL ⟨_, setRow_heap w L.b c _ t (0, 0) g3, ?_, ?_, fun hz => ⟨(hex hz).1, ?_⟩, fun j v hj => ?_⟩ (fun g hg => setRow_other w L.b g _ hg) (by simp) rfl rfl rfl⟩
  · rw [setD_length]; simp; omega
  · simp; omega
  · have := (hex hz).2
    rw [setD_length]; simp; omega
  · have hcs : vals σ cs = some ((c.toList.drop L.base).take cs.length) := by
      refine vals_of_get (by simp; omega) fun j v hj => ?_
      obtain ⟨V, k1, k2⟩ := g6 j v hj
      have hj' : j < cs.length := (List.getElem?_eq_some_iff.1 hj).1
      exact ⟨V, k1, by rw [List.getElem?_take_of_lt hj', List.getElem?_drop]; simpa using k2⟩
    have hset := setD_val vs Vs cs _ o hv hcs
    obtain ⟨V, k1, k2⟩ := vals_get j hset hj
    refine ⟨V, k1, ?_⟩
    rw [setL_get Vs _ o (by simp; omega)] at k2
    have hj' : j < cs.length := by have := (List.getElem?_eq_some_iff.1 hj).1; rw [setD_length] at this; exact this
    simp only [List.getElem?_toArray]
    by_cases h2 : o ≤ j ∧ j < o + Vs.length
    · rw [if_pos h2] at k2
      rw [List.append_assoc, List.getElem?_append_right (by simp; omega), List.getElem?_append_left (by simp; omega)]
      rw [← k2]; congr 1; simp; omega
    · rw [if_neg h2, List.getElem?_take_of_lt hj', List.getElem?_drop] at k2
      by_cases h3 : j < o
      · rw [List.append_assoc, List.getElem?_append_left (by simp; omega), List.getElem?_take_of_lt (by omega)]
        exact k2
      · rw [List.append_assoc, List.getElem?_append_right (by simp; omega), List.getElem?_append_right (by simp; omega), List.getElem?_drop]
        rw [← k2]; congr 1; simp; omega
theorem store_sound (hT : TysOk P Λ Λs) (hE : EnvR σ n E a) (hR : Rel G σ s w) {t : Nat} {A x : Operand} {h' : T DObj} (h : storeD Λ E s.h t A x = some h') {o : Oper} (ho : o.op = .store t A x) :
    ∃ w', (execOp a.eval o).run P w = .ok .skip w' ∧ Rel G σ ⟨h', s.nx⟩ w' := by
  unfold storeD at h
  split at h
  · rename_i b off v i hA hx hi
    split at h
    · rename_i t' sz cs hb
      simp only at h
      cases hc : (Nat.beq v.cells.length i.size && Nat.ble (off + v.cells.length) cs.length && v.cells.all DV.one) with
      | false => rw [hc] at h; cases h
      | true =>
        rw [hc] at h
        simp only [cond_true, Option.some.injEq] at h
        subst h
        simp only [Bool.and_eq_true, Nat.ble_eq, List.all_eq_true] at hc
        obtain ⟨⟨c1, c2⟩, c3⟩ := hc
        have c1 := Nat.eq_of_beq_eq_true c1
        obtain ⟨AV, k1, _, k3⟩ := hE.dev hA
        obtain ⟨XV, k4, _, k6⟩ := hE.dev hx
        obtain ⟨L, hL, rfl⟩ := val_ptr k1
        have hv := val_cells k4
        have hl := vals_length hv
        obtain ⟨w', hrun, hrel⟩ := hR.write (P := P) hb hL hv c2 (fun V hV => by
          obtain ⟨j, hj⟩ := List.getElem?_of_mem hV
          obtain ⟨u, hu, huV⟩ := vals_get' j hv hj
          exact val_one huV (c3 u (List.mem_of_getElem? hu)))
        refine ⟨w', ?_, hrel⟩
        have hs := (hT.ti hi).sizeOf w
        have hsz : XV.cells.size = i.size := by rw [← c1, ← hl]; simp
        simp [execOp, ho, k3, k6, Instr.storeAt, Instr.sureAddr, storeVar, hs, hsz, hrun]
    · cases h
  · cases h
/-- What is appended. -/
structure Src (P : Program) (w : World) (size : Nat) (x : Value) (m : Nat) (news : List Value) : Prop where
  len : ∀ w', (Builtin.lenOf x).run P w' = .ok m w'
  cells : ∀ w', w'.heap = w.heap → (Builtin.firstCells size m x).run P w' = .ok news.toArray w'
  size : news.length = m * size
theorem src_sound (hR : Rel G σ s w) {sz m : Nat} {y : DV} {Y : Value} {news : List DV} (hY : val σ y = some Y) (h : srcD s.h sz y = some (m, news)) : ∃ News, vals σ news = some News ∧ Src P w sz Y m News := by
  unfold srcD at h
  split at h
  · simp only [Option.some.injEq, Prod.mk.injEq] at h
    obtain ⟨rfl, rfl⟩ := h
    obtain ⟨k, _, hle, rfl⟩ := val_slice_nil hY
    exact ⟨[], rfl, ⟨fun w' => by simp [Builtin.lenOf], fun w' _ => by simp [Builtin.firstCells], by simp⟩⟩
  · rename_i b o m' c
    split at h
    · rename_i cs hcs
      simp only [Option.some.injEq, Prod.mk.injEq] at h
      obtain ⟨rfl, rfl⟩ := h
      obtain ⟨L, hL, hle, rfl⟩ := val_slice hY
      obtain ⟨L', Cs, hL', hCs, hlen, hcell⟩ := hR.cellsAt hcs
      rw [hL] at hL'; injection hL' with hL'; subst hL'
      refine ⟨Cs, hCs, ⟨fun w' => by simp [Builtin.lenOf], fun w' hw => ?_, hlen⟩⟩
      refine run_firstCells_some (P := P) w' sz m' _ m' _ Cs hlen fun j V hj => ?_
      have := hcell j V hj
      have hoff : 0 < m' → c.off L o = o := by
        intro hpos
        cases c with
        | known c => rfl
        | rest q alt =>
          simp only [Cap.at_] at hle
          simp only [Cap.off]
          rw [if_neg (by omega)]
      have hpos : 0 < m' := by
        rcases Nat.eq_zero_or_pos m' with e | e
        · subst e
          have hj' := (List.getElem?_eq_some_iff.1 hj).1
          rw [hlen] at hj'; simp at hj'
        · exact e
      rw [hoff hpos, Addr.add_lit]
      simp only [World.cell?, hw] at this ⊢
      exact this
    · cases h
  · rename_i str
    cases hb : Nat.beq sz 1 with
    | false => rw [hb] at h; cases h
    | true =>
      rw [hb] at h
      simp only [cond_true, Option.some.injEq, Prod.mk.injEq] at h
      obtain ⟨rfl, rfl⟩ := h
      have hsz := Nat.eq_of_beq_eq_true hb
      subst hsz
      have := val_str hY
      subst this
      refine ⟨str.map fun c => .int .u8 c.toNat, ?_, ⟨fun w' => by simp [Builtin.lenOf, ByteArray.size], fun w' _ => ?_, by simp⟩⟩
      · unfold u8s
        clear hY hb
        induction str with
        | nil => rfl
        | cons c r ih => exact vals_cons_of rfl ih
      · have : (⟨str.toArray⟩ : ByteArray).extract 0 str.length = ⟨str.toArray⟩ := by
          apply ByteArray.ext
          rw [ByteArray.data_extract]
          simp
        simp [Builtin.firstCells, this]
  · cases h
end
end Go.D
