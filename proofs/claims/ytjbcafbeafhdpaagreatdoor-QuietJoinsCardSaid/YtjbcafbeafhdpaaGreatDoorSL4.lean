import Derived.Test.YtjbcafbeafhdpaaGreatDoorSL3
set_option maxRecDepth 10000
set_option linter.unusedVariables false
set_option linter.unusedSimpArgs false
namespace Go.SL
open Go.RowKit

/-! ### 6. Reading memory -/
def Gh.cell (ρ : Gh) (b p : Nat) : Option Value := match ρ.objs b with
  | some (.cells c _ _) => c[p]?
  | _ => none
/-- From place p of block b on stand these cells, for ever. -/
def Gh.cells (ρ : Gh) (b p : Nat) (cs : List Value) : Prop := ∀ j v, cs[j]? = some v → ρ.cell b (p + j) = some v
theorem Gh.cell_le {ρ ρ' : Gh} (h : ρ ≤ ρ') {b p : Nat} {v : Value} (hc : ρ.cell b p = some v) : ρ'.cell b p = some v := by
  unfold Gh.cell at *
  cases ho : ρ.objs b with
  | none => rw [ho] at hc; cases hc
  | some o => rw [ho] at hc; rw [h.objs b o ho]; exact hc
theorem Gh.cells_le {ρ ρ' : Gh} (h : ρ ≤ ρ') {b p : Nat} {cs : List Value} (hc : ρ.cells b p cs) : ρ'.cells b p cs := fun j v hv => Gh.cell_le h (hc j v hv)
theorem Gh.cells_of_obj {ρ : Gh} {b : Nat} {cs : List Value} {t : TypeId} {fr : Nat × Nat} (h : ρ.objs b = some (.cells cs.toArray t fr)) : ρ.cells b 0 cs := fun j v hv => by
  simp [Gh.cell, h, hv]
theorem Sat.cell {ρ : Gh} {H : Heap} {w : World} (s : Sat ρ H w) {b p : Nat} {v : Value} (h : ρ.cell b p = some v) : w.cell? ⟨b, p, none⟩ = some v := by
  unfold Gh.cell at h
  split at h
  · rename_i c t fr ho
    simp [World.cell?, s.ghost b _ ho, h]
  · cases h
/-- The owned cells of block b, from its head on. -/
class inductive Has : Heap → Nat → outParam (List Value) → Prop
  | obj {b cs t fr H} : Has (.obj b (.cells (List.toArray cs) t fr) :: H) b cs
  | row {b n cap e sz cs H} : Has (.row (.slice (some ⟨b, 0, none⟩) n cap) e sz cs :: H) b cs
  | there {h H b cs} : Has H b cs → Has (h :: H) b cs
instance (priority := high) {b : Nat} {cs : List Value} {t : TypeId} {fr : Nat × Nat} {H : Heap} : Has (.obj b (.cells (List.toArray cs) t fr) :: H) b cs := .obj
instance (priority := high) {b n cap : Nat} {e : TypeId} {sz : Nat} {cs : List Value} {H : Heap} : Has (.row (.slice (some ⟨b, 0, none⟩) n cap) e sz cs :: H) b cs := .row
instance {h : HL} {H : Heap} {b : Nat} {cs : List Value} [p : Has H b cs] : Has (h :: H) b cs := .there p
theorem Owns.cell {w : World} {ρ : Gh} {H : Heap} (o : Owns w ρ H) {b : Nat} {cs : List Value} (h : Has H b cs) {p : Nat} {v : Value} (hv : cs[p]? = some v) : w.cell? ⟨b, p, none⟩ = some v := by
  induction h with
  | @obj b cs t fr H =>
    have := o.1
    simp only [HL.holds] at this
    simp [World.cell?, this, hv]
  | @row b n cap e sz cs H =>
    obtain ⟨m, h1⟩ := o.1
    have := h1.cells (g := b) rfl p v hv
    simpa [Addr.add_lit] using this
  | there _ ih => exact ih o.2.2 hv
/-- One cell, owned or not. -/
def CellAt (ρ : Gh) (H : Heap) (b p : Nat) (v : Value) : Prop := ρ.cell b p = some v ∨ ∃ cs, Has H b cs ∧ cs[p]? = some v
theorem Sat.cellAt {ρ : Gh} {H : Heap} {w : World} (s : Sat ρ H w) {b p : Nat} {v : Value} (h : CellAt ρ H b p v) : w.cell? ⟨b, p, none⟩ = some v := by
  rcases h with h | ⟨cs, h, hv⟩
  · exact s.cell h
  · exact s.owns.cell h hv
def CellsAt (ρ : Gh) (H : Heap) (b p : Nat) (cs : List Value) : Prop := ∀ j v, cs[j]? = some v → CellAt ρ H b (p + j) v
theorem CellsAt.ro {ρ : Gh} {H : Heap} {b p : Nat} {cs : List Value} (h : ρ.cells b p cs) : CellsAt ρ H b p cs := fun j v hv => .inl (h j v hv)
theorem CellsAt.own {ρ : Gh} {H : Heap} {b p : Nat} {cs all : List Value} (h : Has H b all) (e : (all.drop p).take cs.length = cs) : CellsAt ρ H b p cs := fun j v hv => by
  refine .inr ⟨all, h, ?_⟩
  have hj : j < cs.length := (List.getElem?_eq_some_iff.1 hv).1
  rw [← hv]
  conv => rhs; rw [← e]
  rw [List.getElem?_take_of_lt hj, List.getElem?_drop]
theorem CellsAt.whole {ρ : Gh} {H : Heap} {b : Nat} {all : List Value} (h : Has H b all) : CellsAt ρ H b 0 all := fun j v hv => .inr ⟨all, h, by simpa using hv⟩

section
variable {P : Program} {Λ : Lay} {n : Nat} {all : Array Oper} {Q Q' : Exit → Act → World → Prop} {E E' : Env} {ρ ρ' : Gh} {H H' F : Heap} {c x y : Code} {o : Oper} {rest : List Oper}

/-- The value of so many cells. -/
def whole (i : TI) (cs : List Value) : Option Value :=
  match i.und with
  | .other => none
  | .struct _ => some (.agg cs.toArray)
  | _ => match cs with
    | [v] => some v
    | _ => none
theorem run_loadAt {i : TI} {t : Nat} (hi : OkTI P t i) {b p : Nat} {cs : List Value} (hl : cs.length = i.size) {v : Value} (hv : whole i cs = some v) {w : World} (hc : ∀ j u, cs[j]? = some u → w.cell? ⟨b, p + j, none⟩ = some u) :
    (Instr.loadAt t (.pointer (some ⟨b, p, none⟩))).run P w = .ok v w := by
  unfold whole at hv
  have hg : i.und ≠ .other := fun e => by rw [e] at hv; cases hv
  have hg' := hi.isAgg hg w
  have hs := hi.sizeOf w
  split at hv
  · cases hv
  · rename_i l hu
    simp only [Option.some.injEq] at hv
    subst hv
    have ha : i.agg = true := by simp [TI.agg, hu]
    rw [ha] at hg'
    have := run_loadCells_list (P := P) (w := w) ⟨b, p, none⟩ cs (fun j u hj => by rw [Addr.add_lit]; exact hc j u hj)
    rw [hl] at this
    simp [Instr.loadAt, Instr.sureAddr, loadVar, hg', hs, this]
  · rename_i hu
    split at hv
    · rename_i u
      simp only [Option.some.injEq] at hv
      subst hv
      have ha : i.agg = false := by unfold TI.agg; split <;> simp_all
      rw [ha] at hg'
      have h0 := hc 0 u rfl
      simp only [Nat.add_zero] at h0
      simp [Instr.loadAt, Instr.sureAddr, loadVar, hg', h0]
    · cases hv
theorem WL.load (hΛ : OkLay P Λ) {d : Nat} {ty : TypeId} {ps : String} {af : Array Edge} {g : Option (Nat × Bool)} {t : Nat} {a : Operand} {i : TI} (hi : lay Λ t = some i) {b p : Nat} (ha : ev E a = some (.pointer (some ⟨b, p, none⟩))) (cs : List Value)
    (hc : CellsAt ρ H b p cs) (hl : Nat.beq cs.length i.size = true) {v : Value} (hv : whole i cs = some v) {bx cx : Bool} (hw : wants E all g = some (bx, cx)) [hsm : Same bx cx] (hd : Nat.blt d n = true)
    (k : WL P n all Q rest ((d, v) :: E) ρ H) : WL P n all Q (⟨some d, .load t a, ty, ps, af, g⟩ :: rest) E ρ H :=
  WL.value (o := ⟨some d, .load t a, ty, ps, af, g⟩) hw (fun ac w hA s => by
    have := run_loadAt (P := P) (hΛ t i hi) (b := b) (p := p) (cs := cs) (Nat.eq_of_beq_eq_true hl) hv (w := w) fun j u hj => s.cellAt (hc j u hj)
    simp [execOp, hA.ev ha, this]) rfl hd k
/-- A load of one cell. -/
theorem WL.load1 (hΛ : OkLay P Λ) {d : Nat} {ty : TypeId} {ps : String} {af : Array Edge} {g : Option (Nat × Bool)} {t : Nat} {a : Operand} {i : TI} (hi : lay Λ t = some i) {b p : Nat} (ha : ev E a = some (.pointer (some ⟨b, p, none⟩))) (v : Value)
    (hc : CellAt ρ H b p v) (hl : Nat.beq 1 i.size = true) (hv : whole i [v] = some v) {bx cx : Bool} (hw : wants E all g = some (bx, cx)) [hsm : Same bx cx] (hd : Nat.blt d n = true)
    (k : WL P n all Q rest ((d, v) :: E) ρ H) : WL P n all Q (⟨some d, .load t a, ty, ps, af, g⟩ :: rest) E ρ H :=
  WL.load hΛ hi ha [v] (fun j u hj => by
    have : j = 0 := by
      have := (List.getElem?_eq_some_iff.1 hj).1
      simp at this; exact this
    subst this
    simp only [List.getElem?_cons_zero, Option.some.injEq] at hj
    subst hj
    exact hc) hl hv hw hd k

/-- A load out of what is owned. -/
theorem WL.loadO (hΛ : OkLay P Λ) {d : Nat} {ty : TypeId} {ps : String} {af : Array Edge} {g : Option (Nat × Bool)} {t : Nat} {a : Operand} {i : TI} (hi : lay Λ t = some i) {b p : Nat} (ha : ev E a = some (.pointer (some ⟨b, p, none⟩))) {cs : List Value}
    [hc : Has H b cs] {v : Value} (hl : Nat.beq ((cs.drop p).take i.size).length i.size = true) (hv : whole i ((cs.drop p).take i.size) = some v) {bx cx : Bool} (hw : wants E all g = some (bx, cx)) [hsm : Same bx cx] (hd : Nat.blt d n = true)
    (k : WL P n all Q rest ((d, v) :: E) ρ H) : WL P n all Q (⟨some d, .load t a, ty, ps, af, g⟩ :: rest) E ρ H :=
  WL.load hΛ hi ha ((cs.drop p).take i.size) (.own hc (by rw [Nat.eq_of_beq_eq_true hl])) hl hv hw hd k
/-! New blocks -/
theorem WL.box {d : Nat} {ty : TypeId} {ps : String} {af : Array Edge} {g : Option (Nat × Bool)} {t : Nat} {a : Operand} {v : Value} (ha : ev E a = some v) {cs : List Value} (hc : v.cells = List.toArray cs) {bx cx : Bool} (hw : wants E all g = some (bx, cx)) [hsm : Same bx cx] (hd : Nat.blt d n = true)
    (k : ∀ b, WL P n all Q rest ((d, .pointer (some ⟨b, 0, none⟩)) :: E) ρ (.obj b (.cells (List.toArray cs) t (0, 0)) :: H)) : WL P n all Q (⟨some d, .box t a, ty, ps, af, g⟩ :: rest) E ρ H :=
  WL.step (o := ⟨some d, .box t a, ty, ps, af, g⟩) hw fun ac w hA s => by
    subst_vars
    rw [← hc] at k
    exact wp_of_value (w' := w.alloc (.cells v.cells t)) (v := .pointer (some ⟨w.heap.size, 0, none⟩))
      (by simp [execOp, hA.ev ha, Instr.box, newVar, newRow]) ((k w.heap.size).go _ _ (hA.put (d := some d) _ hd) (s.alloc _))
theorem WL.alloc (hΛ : OkLay P Λ) {d : Nat} {ty : TypeId} {ps : String} {af : Array Edge} {g : Option (Nat × Bool)} {t : Nat} {i : TI} (hi : lay Λ t = some i) {zs : List Value} (hz : i.zero = zs) {bx cx : Bool} (hw : wants E all g = some (bx, cx)) [hsm : Same bx cx] (hd : Nat.blt d n = true)
    (k : ∀ b, WL P n all Q rest ((d, .pointer (some ⟨b, 0, none⟩)) :: E) ρ (.obj b (.cells (List.toArray zs) t (0, 0)) :: H)) : WL P n all Q (⟨some d, .alloc t, ty, ps, af, g⟩ :: rest) E ρ H :=
  WL.step (o := ⟨some d, .alloc t, ty, ps, af, g⟩) hw fun ac w hA s => by
    obtain ⟨z, hz', hzl⟩ := (hΛ t i hi).zeroValue w
    have hzc : z.cells = zs.toArray := by apply Array.ext'; simpa [hz] using hzl
    exact wp_of_value (w' := w.alloc (.cells z.cells t)) (v := .pointer (some ⟨w.heap.size, 0, none⟩))
      (by simp [execOp, Instr.alloc, hz', newVar, newRow]) (hzc ▸ (k w.heap.size).go _ _ (hA.put (d := some d) _ hd) (s.alloc _))

/-! Stores -/
def setL (cs : List Value) (p : Nat) : List Value → List Value
  | [] => cs
  | v :: vs => setL (cs.set p v) (p + 1) vs
theorem setL_length : ∀ (vs cs : List Value) (p : Nat), (setL cs p vs).length = cs.length
  | [], _, _ => rfl
  | v :: vs, cs, p => by simp [setL, setL_length vs]
/-- The heap with cells of block b written. -/
class inductive Upd : Heap → Nat → Nat → List Value → outParam (List Value) → outParam Heap → Prop
  | obj {b cs t p vs H} : Upd (.obj b (.cells (List.toArray cs) t (0, 0)) :: H) b p vs cs (.obj b (.cells (List.toArray (setL cs p vs)) t (0, 0)) :: H)
  | row {b n cap e sz cs p vs H} : Upd (.row (.slice (some ⟨b, 0, none⟩) n cap) e sz cs :: H) b p vs cs (.row (.slice (some ⟨b, 0, none⟩) n cap) e sz (setL cs p vs) :: H)
  | there {h H b p vs cs H'} : Upd H b p vs cs H' → Upd (h :: H) b p vs cs (h :: H')
instance (priority := high) {b : Nat} {cs : List Value} {t : TypeId} {p : Nat} {vs : List Value} {H : Heap} : Upd (.obj b (.cells (List.toArray cs) t (0, 0)) :: H) b p vs cs (.obj b (.cells (List.toArray (setL cs p vs)) t (0, 0)) :: H) := .obj
instance (priority := high) {b n cap : Nat} {e : TypeId} {sz : Nat} {cs : List Value} {p : Nat} {vs : List Value} {H : Heap} : Upd (.row (.slice (some ⟨b, 0, none⟩) n cap) e sz cs :: H) b p vs cs (.row (.slice (some ⟨b, 0, none⟩) n cap) e sz (setL cs p vs) :: H) := .row
instance {h : HL} {H : Heap} {b p : Nat} {vs cs : List Value} {H' : Heap} [u : Upd H b p vs cs H'] : Upd (h :: H) b p vs cs (h :: H') := .there u
theorem Pick.of_upd {b p : Nat} {vs cs0 : List Value} (h : Upd H b p vs cs0 H') (hlen : p + vs.length ≤ cs0.length) : ∃ g g' R, Pick g H R ∧ Pick g' H' R ∧ g.foot = some b ∧ g'.foot = some b ∧
    ((∃ cs t, g = .obj b (.cells (List.toArray cs) t (0, 0)) ∧ g' = .obj b (.cells (List.toArray (setL cs p vs)) t (0, 0)) ∧ p + vs.length ≤ cs.length) ∨
     (∃ m cap e sz cs, g = .row (.slice (some ⟨b, 0, none⟩) m cap) e sz cs ∧ g' = .row (.slice (some ⟨b, 0, none⟩) m cap) e sz (setL cs p vs) ∧ p + vs.length ≤ cs.length)) := by
  induction h with
  | obj => exact ⟨_, _, _, .here, .here, rfl, rfl, .inl ⟨_, _, rfl, rfl, hlen⟩⟩
  | row => exact ⟨_, _, _, .here, .here, rfl, rfl, .inr ⟨_, _, _, _, _, rfl, rfl, hlen⟩⟩
  | there _ ih =>
    obtain ⟨g, g', R, h1, h2, r⟩ := ih hlen
    exact ⟨g, g', _, .there h1, .there h2, r⟩
theorem Pick.mem' {g : HL} {H R : Heap} (p : Pick g H R) {k : HL} : k ∈ H ↔ k = g ∨ k ∈ R := by
  induction p with
  | here => simp
  | there _ ih => simp only [List.mem_cons, ih]; constructor <;> (rintro (h | h | h) <;> simp [h])
theorem Pick.back {w : World} {ρ : Gh} {g : HL} {H R : Heap} (p : Pick g H R) (o : Owns w ρ (g :: R)) : Owns w ρ H := by
  induction p with
  | here => exact o
  | there p ih =>
    obtain ⟨o1, o2, o3, o4, o5⟩ := o
    refine ⟨o3, fun b hb => ⟨(o4 b hb).1, fun k hk hkb => ?_⟩, ih ⟨o1, fun b hb => ⟨(o2 b hb).1, fun k hk => (o2 b hb).2 k (by simp [hk])⟩, o5⟩⟩
    rcases (Pick.mem' p).1 hk with rfl | hk
    · exact (o2 b hkb).2 _ (by simp) hb
    · exact (o4 b hb).2 k hk hkb
theorem setL_one (cs : List Value) (p : Nat) (v : Value) : setL cs p [v] = cs.set p v := rfl
/-- One cell written. -/
theorem Sat.store1 {w : World} {b p : Nat} {v : Value} {cs0 : List Value} (s : Sat ρ H w) (h : Upd H b p [v] cs0 H') (hlen : p < cs0.length) (h1 : v.oneCell' = true) :
    (store ⟨b, p, none⟩ v).run P w = .ok () (w.setCell ⟨b, p, none⟩ v) ∧ Sat ρ H' (w.setCell ⟨b, p, none⟩ v) := by
  obtain ⟨g, g', R, hp, hp', hf, hf', hr⟩ := Pick.of_upd h (by simp; omega)
  have s1 := s.pick hp
  have hgrown : w.grownBy (w.setCell ⟨b, p, none⟩ v) g.foot := by
    rw [hf]
    exact ⟨rfl, rfl, rfl, by simp [World.setCell], fun k hk hne => Below.heap_setCell w ⟨b, p, none⟩ v k (fun e => hne (by simp at e; rw [e]))⟩
  have hcell : (∃ u, w.cell? ⟨b, p, none⟩ = some u) ∧ w.frozen? ⟨b, p, none⟩ = false ∧ g'.holds (w.setCell ⟨b, p, none⟩ v) := by
    rcases hr with ⟨cs, t, rfl, rfl, hl⟩ | ⟨m, cap, e, sz, cs, rfl, rfl, hl⟩
    · have hh := s1.owns.1
      simp only [HL.holds] at hh
      have hl' : p < cs.length := by simp at hl; omega
      refine ⟨⟨cs[p], by simp [World.cell?, hh, hl']⟩, by simp [World.frozen?, hh], ?_⟩
      simp [HL.holds, World.setCell, Array.getElem?_modify, hh, setL_one]
    · obtain ⟨k, hh⟩ := s1.owns.1
      have hl' : p < cs.length := by simp at hl; omega
      refine ⟨⟨cs[p], ?_⟩, ?_, k, ?_⟩
      · have := hh.cells (g := b) rfl p cs[p] (by simp [hl'])
        simpa [Addr.add_lit] using this
      · rcases hh.2 with ⟨h0, _⟩ | ⟨g0, cap', cur, h0, _, hg, _⟩
        · cases h0
        · simp only [Value.slice.injEq, Option.some.injEq, Addr.mk.injEq] at h0
          obtain ⟨⟨rfl, _, _⟩, _, _⟩ := h0
          simp [World.frozen?, hg]
      · refine ⟨by rw [setL_length]; exact hh.1, ?_⟩
        rcases hh.2 with ⟨h0, _⟩ | ⟨g0, cap', cur, h0, hb, hg, hn, hm, hsz, ht⟩
        · cases h0
        · simp only [Value.slice.injEq, Option.some.injEq, Addr.mk.injEq] at h0
          obtain ⟨⟨rfl, _, _⟩, rfl, rfl⟩ := h0
          refine .inr ⟨b, cap, cur.setIfInBounds p v, rfl, hb, ?_, hn, hm, by simpa using hsz, ?_⟩
          · simp [World.setCell, Array.getElem?_modify, hg]
          · rw [Array.toList_setIfInBounds, List.take_set, ht, setL_one]
  obtain ⟨⟨u, hu⟩, hfr, hh'⟩ := hcell
  refine ⟨?_, ?_⟩
  · rw [run_store P w _ v _ h1]
    simp [hu, hfr]
  · have s2 := s1.turn hgrown hh' (.inr (.inl (by rw [hf, hf'])))
    exact ⟨s2.ghost, hp'.back s2.owns, s2.os, s2.tape, s2.output⟩
/-- Cells written one behind the other. -/
theorem Upd.cut {b p : Nat} {v : Value} {vs cs0 : List Value} (h : Upd H b p (v :: vs) cs0 H') : ∃ H1, Upd H b p [v] cs0 H1 ∧ Upd H1 b (p + 1) vs (cs0.set p v) H' := by
  generalize hvs : v :: vs = us at h
  induction h with
  | obj => subst hvs; exact ⟨_, .obj, .obj⟩
  | row => subst hvs; exact ⟨_, .row, .row⟩
  | there _ ih =>
    obtain ⟨H1, h1, h2⟩ := ih hvs
    exact ⟨_, .there h1, .there h2⟩
theorem Upd.nil_ {b q : Nat} {cs0 : List Value} (h : Upd H b q [] cs0 H') : H' = H := by
  generalize hvs : ([] : List Value) = us at h
  induction h with
  | obj => subst hvs; rfl
  | row => subst hvs; rfl
  | there _ ih => rw [ih hvs]
theorem Sat.storeCells {b : Nat} : ∀ (vs : List Value) (p i : Nat) {H H' : Heap} {w : World} {cs0 : List Value}, Sat ρ H w → Upd H b (p + i) vs cs0 H' → p + i + vs.length ≤ cs0.length → (∀ v ∈ vs, v.oneCell' = true) →
    ∃ w', (Go.storeCells ⟨b, p, none⟩ vs i).run P w = .ok () w' ∧ Sat ρ H' w'
  | [], p, i, H, H', w, cs0, s, h, _, _ => by
    have := Upd.nil_ h
    subst this
    exact ⟨w, by simp [Go.storeCells], s⟩
  | v :: vs, p, i, H, H', w, cs0, s, h, hlen, h1 => by
    obtain ⟨H1, hu, hr⟩ := h.cut
    simp only [List.length_cons] at hlen
    obtain ⟨e, s1⟩ := s.store1 (P := P) hu (by omega) (h1 v (by simp))
    obtain ⟨w', e', s'⟩ := Sat.storeCells vs p (i + 1) s1 hr (by simp; omega) (fun u hu => h1 u (by simp [hu]))
    refine ⟨w', ?_, s'⟩
    simp only [Go.storeCells, Sem.run_bind, Addr.add_lit, e, Result.andThen_ok, e']
def ones (vs : List Value) : Bool := vs.all Value.oneCell'
theorem WL.store (hΛ : OkLay P Λ) {ty : TypeId} {ps : String} {af : Array Edge} {g : Option (Nat × Bool)} {t : Nat} {a x : Operand} {i : TI} (hi : lay Λ t = some i) {b p : Nat} (ha : ev E a = some (.pointer (some ⟨b, p, none⟩))) {v : Value} (hx : ev E x = some v)
    {vs : List Value} (hvs : v.cells = List.toArray vs) (hl : Nat.beq vs.length i.size = true) (h1 : ones vs = true) {cs0 : List Value} [hu : Upd H b p vs cs0 H'] (hlen : p + vs.length ≤ cs0.length) {bx cx : Bool} (hw : wants E all g = some (bx, cx)) [hsm : Same bx cx]
    (k : WL P n all Q rest E ρ H') : WL P n all Q (⟨none, .store t a x, ty, ps, af, g⟩ :: rest) E ρ H :=
  WL.step (o := ⟨none, .store t a x, ty, ps, af, g⟩) hw fun ac w hA s => by
    obtain ⟨w', e, s'⟩ := Sat.storeCells (P := P) vs p 0 s (by simpa using hu) (by simpa using hlen) (fun u hu => by
      have := h1
      unfold ones at this
      rw [List.all_eq_true] at this
      exact this u hu)
    have hs := (hΛ t i hi).sizeOf w
    have hsz : vs.length = i.size := Nat.eq_of_beq_eq_true hl
    refine wp_of_skip (w' := w') ?_ (k.go _ _ hA s')
    simp [execOp, hA.ev ha, hA.ev hx, Instr.storeAt, Instr.sureAddr, storeVar, hs, hvs, hsz, e]

/-! Calls -/
/-- A contract: from whatever stands beside, with what it owns, it returns; what it tells of the value, of what is frozen, of what it owns then. -/
structure Ct (P : Program) (f : FuncId) (args : Array Value) (ρ : Gh) (H : Heap) (R : Value → Gh → Heap → Prop) : Prop where
  ent : ∀ as w, (callFunc f as).run P w = .ok (.enter f as) w
  run : ∀ F w, Sat ρ (H ++ F) w → Calls P f args w fun e w' => ∃ v ρ' H', e = .returned v ∧ ρ ≤ ρ' ∧ R v ρ' H' ∧ Sat ρ' (H' ++ F) w'
/-- .. that only reckons. -/
abbrev CtV (P : Program) (f : FuncId) (args : Array Value) (ρ : Gh) (v : Value) : Prop := Ct P f args ρ [] fun u ρ' H' => u = v ∧ ρ' = ρ ∧ H' = []
theorem Ct.mono {f : FuncId} {args : Array Value} {R R' : Value → Gh → Heap → Prop} (h : Ct P f args ρ H R) (hr : ∀ v ρ' H', ρ ≤ ρ' → R v ρ' H' → R' v ρ' H') : Ct P f args ρ H R' :=
  ⟨h.1, fun F w s => (h.2 F w s).mono fun e w' ⟨v, ρ', H', he, hle, hR, hs⟩ => ⟨v, ρ', H', he, hle, hr v ρ' H' hle hR, hs⟩⟩
/-- The heap is what a callee owns, and the rest. -/
class inductive Split : Heap → Heap → outParam Heap → Prop
  | nil {A : Heap} : Split A [] A
  | cons {h : HL} {A B C D : Heap} : Pick h A B → Split B C D → Split A (h :: C) D
instance {A : Heap} : Split A [] A := .nil
instance {h : HL} {A B C D : Heap} [p : Pick h A B] [q : Split B C D] : Split A (h :: C) D := .cons p q
theorem Sat.split {w : World} {Hc : Heap} (sp : Split H Hc F) : Sat ρ H w → Sat ρ (Hc ++ F) w := by
  intro s
  have : ∀ {H Hc F : Heap}, Split H Hc F → ∀ k, (k ∈ Hc ∨ k ∈ F) ↔ k ∈ H := by
    intro H Hc F sp
    induction sp with
    | nil => simp
    | cons p _ ih => intro k; rw [List.mem_cons, or_assoc, ih, Pick.mem' p]
  induction sp with
  | nil => exact s
  | @cons h Hc H H' F p q ih =>
    have s1 := s.pick p
    have s2 := ih s1.tail
    refine ⟨s.ghost, ⟨s1.owns.1, fun b hb => ⟨(s1.owns.2.1 b hb).1, fun g hg => ?_⟩, s2.owns⟩, s.os, s.tape, s.output⟩
    exact (s1.owns.2.1 b hb).2 g ((this q g).1 (List.mem_append.1 hg))
theorem enters_of' {f : FuncId} {fn : Func} (hf : P.funcs[f]? = some fn) (hn : (fn.name == "runtime.NumGoroutine") = false) (hb : fn.body.isNone = false) (as : Array Value) (w : World) :
    (callFunc f as).run P w = .ok (.enter f as) w := by
  simp only [callFunc, program, Sem.run_bind, Sem.run, Result.andThen_ok, hf]
  simp [hn, hb]
theorem Calls.of_le {f : FuncId} {args : Array Value} {w : World} {R R' : Ending → World → Prop} (h : Calls P f args w R) (hr : ∀ e w', R e w' → R' e w') : Calls P f args w R' := h.mono hr
theorem WL.call {dst : Option Nat} {ty : TypeId} {ps : String} {af : Array Edge} {g : Option (Nat × Bool)} {f : FuncId} {x : Operand} {xs : Array Operand} {ts : Array TypeId} {first cap : Array Value} (hx : ev E x = some (.func (.func f) first cap)) {vs : List Value} (ha : evs E xs.toList = some vs)
    {args : Array Value} (hA : first ++ vs.toArray ++ cap = args) {Hc : Heap} {R : Value → Gh → Heap → Prop} (hf : Ct P f args ρ Hc R) [hs : Split H Hc F] {bx cx : Bool} (hw : wants E all g = some (bx, cx)) [hsm : Same bx cx] (hd : dstOk n dst = true)
    (k : ∀ v ρ' H', ρ ≤ ρ' → R v ρ' H' → WL P n all Q rest (put E dst v) ρ' (H' ++ F)) : WL P n all Q (⟨dst, .call ⟨.value x, xs, ts⟩, ty, ps, af, g⟩ :: rest) E ρ H :=
  WL.step (o := ⟨dst, .call ⟨.value x, xs, ts⟩, ty, ps, af, g⟩) hw fun ac w hAg s => by
    subst hA
    refine wp_of_enter (w' := w) (f := f) (args := first ++ vs.toArray ++ cap) ?_ ((hf.2 F w (s.split hs)).mono fun e w' ⟨v, ρ', H', he, hle, hR, hs'⟩ => ⟨v, he, (k v ρ' H' hle hR).go _ _ (hAg.put _ hd) hs'⟩)
    have h1 := hAg.evs_arr ha
    have h2 := hAg.ev hx
    simp only [execOp, resolve, h1, h2, Deferred.ofValue, Sem.run_bind, Sem.run_pure, Result.andThen_ok, invoke, hf.1]
/-- A call of a named function. -/
theorem WL.callF {d : Nat} {ty : TypeId} {ps : String} {af : Array Edge} {g : Option (Nat × Bool)} {f : FuncId} {xs : Array Operand} {ts : Array TypeId} {vs : List Value} (ha : evs E xs.toList = some vs)
    {Hc : Heap} {R : Value → Gh → Heap → Prop} (hf : Ct P f vs.toArray ρ Hc R) [hs : Split H Hc F] {bx cx : Bool} (hw : wants E all g = some (bx, cx)) [hsm : Same bx cx] (hd : Nat.blt d n = true)
    (k : ∀ v ρ' H', ρ ≤ ρ' → R v ρ' H' → WL P n all Q rest ((d, v) :: E) ρ' (H' ++ F)) : WL P n all Q (⟨some d, .call ⟨.value (.func f), xs, ts⟩, ty, ps, af, g⟩ :: rest) E ρ H :=
  WL.call (dst := some d) (x := .func f) rfl ha (by simp) hf hw hd k
/-- .. whose value is let go. -/
theorem WL.call0 {ty : TypeId} {ps : String} {af : Array Edge} {g : Option (Nat × Bool)} {f : FuncId} {xs : Array Operand} {ts : Array TypeId} {vs : List Value} (ha : evs E xs.toList = some vs)
    {Hc : Heap} {R : Value → Gh → Heap → Prop} (hf : Ct P f vs.toArray ρ Hc R) [hs : Split H Hc F] {bx cx : Bool} (hw : wants E all g = some (bx, cx)) [hsm : Same bx cx]
    (k : ∀ v ρ' H', ρ ≤ ρ' → R v ρ' H' → WL P n all Q rest E ρ' (H' ++ F)) : WL P n all Q (⟨none, .call ⟨.value (.func f), xs, ts⟩, ty, ps, af, g⟩ :: rest) E ρ H :=
  WL.call (dst := none) (x := .func f) rfl ha (by simp) hf hw rfl k
/-- .. that only reckons. -/
theorem WL.callV {d : Nat} {ty : TypeId} {ps : String} {af : Array Edge} {g : Option (Nat × Bool)} {f : FuncId} {xs : Array Operand} {ts : Array TypeId} {vs : List Value} (ha : evs E xs.toList = some vs)
    {v : Value} (hf : CtV P f vs.toArray ρ v) {bx cx : Bool} (hw : wants E all g = some (bx, cx)) [hsm : Same bx cx] (hd : Nat.blt d n = true)
    (k : WL P n all Q rest ((d, v) :: E) ρ H) : WL P n all Q (⟨some d, .call ⟨.value (.func f), xs, ts⟩, ty, ps, af, g⟩ :: rest) E ρ H :=
  WL.callF ha hf hw hd fun u ρ' H' _ ⟨h1, h2, h3⟩ => by subst h1; subst h2; subst h3; exact k

/-! Functions -/
structure postOf (P : Program) (fn : Func) (ρ : Gh) (F : Heap) (R : Value → Gh → Heap → Prop) (e : Exit) (a : Act) (w : World) : Prop where
  get : bodyPost P fn (fun e w' => ∃ v ρ' H', e = .returned v ∧ ρ ≤ ρ' ∧ R v ρ' H' ∧ Sat ρ' (H' ++ F) w') e a w
def argEnv : Nat → List Value → Env
  | _, [] => []
  | i, v :: vs => (i, v) :: argEnv (i + 1) vs
theorem argEnv_find : ∀ (vs : List Value) (i t : Nat) (v : Value), find (argEnv i vs) t = some v → i ≤ t ∧ vs[t - i]? = some v
  | [], _, _, _, h => by cases h
  | u :: us, i, t, v, h => by
    rw [argEnv, find_cons] at h
    by_cases hi : i = t
    · subst hi; rw [if_pos rfl] at h; simp_all
    · rw [if_neg hi] at h
      obtain ⟨h1, h2⟩ := argEnv_find us (i + 1) t v h
      refine ⟨by omega, ?_⟩
      rw [show t - i = (t - (i + 1)) + 1 by omega, List.getElem?_cons_succ]
      exact h2
theorem Ct.enter {f m : Nat} {fn : Func} {c : Code} {vs : List Value} {R : Value → Gh → Heap → Prop} (hf : P.funcs[f]? = some fn) (hm : fn.ntmps = m) (hn : (fn.name == "runtime.NumGoroutine") = false) (hb : fn.body = some c) (hsz : Nat.ble vs.length m = true)
    (h : ∀ F, WC P m c (postOf P fn ρ F R) (argEnv 0 vs) ρ (H ++ F)) : Ct P f vs.toArray ρ H R := by
  subst hm
  refine ⟨enters_of' hf hn (by rw [hb]; rfl), fun F w s => calls_of_wp hf hb (wp_mono ((h F).go _ w ⟨?_, rfl, fun t v hv => ?_⟩ s) fun _ _ _ hp => hp.get)⟩
  · have := Nat.le_of_ble_eq_true hsz
    simp; omega
  · obtain ⟨_, h2⟩ := argEnv_find vs 0 t v hv
    have ht : t < vs.length := by have := (List.getElem?_eq_some_iff.1 h2).1; omega
    rw [Array.getD_eq_getD_getElem?, Array.getElem?_append_left (by simpa using ht)]
    simp only [List.getElem?_toArray]
    rw [show t = t - 0 by omega, h2]; rfl
/-- .. that owns nothing at the start. -/
theorem Ct.enter0 {f m : Nat} {fn : Func} {c : Code} {vs : List Value} {R : Value → Gh → Heap → Prop} (hf : P.funcs[f]? = some fn) (hm : fn.ntmps = m) (hn : (fn.name == "runtime.NumGoroutine") = false) (hb : fn.body = some c) (hsz : Nat.ble vs.length m = true)
    (h : ∀ F, WC P m c (postOf P fn ρ F R) (argEnv 0 vs) ρ F) : Ct P f vs.toArray ρ [] R := Ct.enter hf hm hn hb hsz h
/-- Heaps joined. -/
class App (A B : Heap) (C : outParam Heap) : Prop where eq : A ++ B = C
instance {B : Heap} : App [] B B := ⟨rfl⟩
instance {h : HL} {A B C : Heap} [p : App A B C] : App (h :: A) B (h :: C) := ⟨by rw [List.cons_append, p.eq]⟩
theorem WX.ret1 {fn : Func} {e : Exit} {R : Value → Gh → Heap → Prop} {r : Nat} {v : Value} {ρ0 : Gh} (he : e = .ret ∨ e = .normal) (hr : fn.results = #[.tmp r]) (hv : find E r = some v) (hle : ρ0 ≤ ρ) {H1 : Heap} (hR : R v ρ H1) {HF : Heap} [hF : App H1 F HF] [hH : HIn HF H] :
    WX n e (postOf P fn ρ0 F R) E ρ H := ⟨fun a w ha s => by
  have : bodyPost P fn (fun e w' => ∃ v ρ' H', e = .returned v ∧ ρ0 ≤ ρ' ∧ R v ρ' H' ∧ Sat ρ' (H' ++ F) w') .ret a w :=
    ⟨ha.defers, v, by rw [results_tmp hr, ha.at_ r v hv], v, ρ, H1, rfl, hle, hR, by rw [hF.eq]; exact s.sub hH⟩
  rcases he with rfl | rfl <;> exact ⟨this⟩⟩
theorem WX.ret2 {fn : Func} {e : Exit} {R : Value → Gh → Heap → Prop} {r r' : Nat} {v v' : Value} {ρ0 : Gh} (he : e = .ret ∨ e = .normal) (hr : fn.results = #[.tmp r, .tmp r']) (hv : find E r = some v) (hv' : find E r' = some v') (hle : ρ0 ≤ ρ) {H1 : Heap} (hR : R (.tuple #[v, v']) ρ H1) {HF : Heap} [hF : App H1 F HF] [hH : HIn HF H] :
    WX n e (postOf P fn ρ0 F R) E ρ H := ⟨fun a w ha s => by
  have : bodyPost P fn (fun e w' => ∃ v ρ' H', e = .returned v ∧ ρ0 ≤ ρ' ∧ R v ρ' H' ∧ Sat ρ' (H' ++ F) w') .ret a w :=
    ⟨ha.defers, _, by rw [results_tmp2 hr, ha.at_ r v hv, ha.at_ r' v' hv'], _, ρ, H1, rfl, hle, hR, by rw [hF.eq]; exact s.sub hH⟩
  rcases he with rfl | rfl <;> exact ⟨this⟩⟩
theorem WX.ret3 {fn : Func} {e : Exit} {R : Value → Gh → Heap → Prop} {r r' r'' : Nat} {v v' v'' : Value} {ρ0 : Gh} (he : e = .ret ∨ e = .normal) (hr : fn.results = #[.tmp r, .tmp r', .tmp r'']) (hv : find E r = some v) (hv' : find E r' = some v') (hv'' : find E r'' = some v'') (hle : ρ0 ≤ ρ) {H1 : Heap} (hR : R (.tuple #[v, v', v'']) ρ H1) {HF : Heap} [hF : App H1 F HF] [hH : HIn HF H] :
    WX n e (postOf P fn ρ0 F R) E ρ H := ⟨fun a w ha s => by
  have : bodyPost P fn (fun e w' => ∃ v ρ' H', e = .returned v ∧ ρ0 ≤ ρ' ∧ R v ρ' H' ∧ Sat ρ' (H' ++ F) w') .ret a w :=
    ⟨ha.defers, .tuple #[v, v', v''], by simp [results, hr, ← ha.at_ r v hv, ← ha.at_ r' v' hv', ← ha.at_ r'' v'' hv''], _, ρ, H1, rfl, hle, hR, by rw [hF.eq]; exact s.sub hH⟩
  rcases he with rfl | rfl <;> exact ⟨this⟩⟩
theorem WX.ret0 {fn : Func} {e : Exit} {R : Value → Gh → Heap → Prop} {ρ0 : Gh} (he : e = .ret ∨ e = .normal) (hr : fn.results = #[]) (hle : ρ0 ≤ ρ) {H1 : Heap} (hR : R (.tuple #[]) ρ H1) {HF : Heap} [hF : App H1 F HF] [hH : HIn HF H] :
    WX n e (postOf P fn ρ0 F R) E ρ H := ⟨fun a w ha s => by
  have : bodyPost P fn (fun e w' => ∃ v ρ' H', e = .returned v ∧ ρ0 ≤ ρ' ∧ R v ρ' H' ∧ Sat ρ' (H' ++ F) w') .ret a w :=
    ⟨ha.defers, _, results_none hr _ _ _, _, ρ, H1, rfl, hle, hR, by rw [hF.eq]; exact s.sub hH⟩
  rcases he with rfl | rfl <;> exact ⟨this⟩⟩
end
end Go.SL
