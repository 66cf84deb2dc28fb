import Derived.Test.YtjbcafbeafhdpaaGreatDoorSL6
import Derived.Laws.MakeOwn
set_option maxRecDepth 10000
set_option linter.unusedVariables false
set_option linter.unusedSimpArgs false
namespace Go.SL
open Go.RowKit

/-! ### 9. Structs built, slices built, appended to, made -/
theorem fold_set : ∀ (vs : List Value) (cs : Array Value) (off j : Nat), ((vs.zipIdx j).foldl (fun cs (c, k) => cs.setIfInBounds (off + k) c) cs).toList = setL cs.toList (off + j) vs
  | [], cs, off, j => rfl
  | v :: vs, cs, off, j => by
    simp only [List.zipIdx_cons, List.foldl_cons, setL]
    rw [fold_set vs _ off (j + 1), Array.toList_setIfInBounds, Nat.add_assoc]
theorem fold_setA (vs : List Value) (cs : Array Value) (off : Nat) : (vs.toArray.zipIdx.foldl (fun cs (c, k) => cs.setIfInBounds (off + k) c) cs) = (setL cs.toList off vs).toArray := by
  apply Array.ext'
  have := fold_set vs cs off 0
  rw [← Array.foldl_toList]
  simpa using this
/-- The model's 'fill', by lists. -/
def fillL (place : Nat → Option (Nat × Nat)) (cs : List Value) : List (Nat × Value) → Option (List Value)
  | [] => some cs
  | (i, v) :: r => match place i with
    | none => none
    | some (off, sz) => bif Nat.beq v.cells.toList.length sz && Nat.ble (off + v.cells.toList.length) cs.length then fillL place (setL cs off v.cells.toList) r else none
theorem fill_of (place : Nat → Option (Nat × Nat)) : ∀ (ps : List (Nat × Value)) (cs out : List Value), fillL place cs ps = some out → Instr.fill place cs.toArray ps = some out.toArray
  | [], cs, out, h => by simp only [fillL, Option.some.injEq] at h; subst h; rfl
  | (i, v) :: r, cs, out, h => by
    simp only [fillL] at h
    split at h
    · cases h
    · rename_i off sz hp
      cases hc : (Nat.beq v.cells.toList.length sz && Nat.ble (off + v.cells.toList.length) cs.length) with
      | false => rw [hc] at h; cases h
      | true =>
        rw [hc] at h
        simp only [cond_true] at h
        simp only [Bool.and_eq_true, Nat.ble_eq] at hc
        have h1 : v.cells.size = sz := by have := Nat.eq_of_beq_eq_true hc.1; simpa using this
        have h2 : ¬ (off + v.cells.size > cs.toArray.size) := by have := hc.2; simp at this ⊢; omega
        have := fill_of place r _ _ h
        simp only [Instr.fill, hp]
        rw [if_neg (by simp only [ne_eq, Bool.or_eq_true, decide_eq_true_eq, not_or]; exact ⟨by simp [h1], by simpa using h2⟩)]
        have e := fold_setA v.cells.toList cs.toArray off
        simp only [Array.toArray_toList, List.toList_toArray] at e
        rw [e]
        exact this
def placesL (Λ : Lay) : List (TypeId × Nat) → Option (List (Nat × Nat))
  | [] => some []
  | (t, o) :: r => match lay Λ t, placesL Λ r with
    | some i, some ps => some ((o, i.size) :: ps)
    | _, _ => none
theorem placesL_spec {P : Program} {Λ : Lay} (hΛ : OkLay P Λ) : ∀ (fs : List Field) (l : List (TypeId × Nat)) (ps : List (Nat × Nat)), fs.map (fun f => (f.type, f.offset)) = l → placesL Λ l = some ps →
    fs.mapM (fun f => (P.info? f.type).map fun i => (f.offset, i.size)) = some ps
  | [], l, ps, h, hp => by subst h; simp only [List.map_nil, placesL, Option.some.injEq] at hp; subst hp; rfl
  | f :: fs, l, ps, h, hp => by
    subst h
    simp only [List.map_cons, placesL] at hp
    split at hp
    · rename_i i rest hi hr
      simp only [Option.some.injEq] at hp
      subst hp
      obtain ⟨x, z, hx, h1, _⟩ := (hΛ _ i hi).infos
      have := placesL_spec hΛ fs _ rest rfl hr
      simp [List.mapM_cons, hx, this, h1]
    · cases hp
def evP (E : Env) : List (Nat × Operand) → Option (List (Nat × Value))
  | [] => some []
  | (i, x) :: r => match ev E x, evP E r with
    | some v, some vs => some ((i, v) :: vs)
    | _, _ => none
theorem Ag.evP {n : Nat} {E : Env} {a : Act} (h : Ag n E a) : ∀ {ps : List (Nat × Operand)} {vs : List (Nat × Value)}, SL.evP E ps = some vs → ps.map (fun p => (p.1, a.eval p.2)) = vs
  | [], vs, hx => by simp only [SL.evP, Option.some.injEq] at hx; subst hx; rfl
  | (i, x) :: r, vs, hx => by
    simp only [SL.evP] at hx
    split at hx
    · rename_i v us hv hus
      simp only [Option.some.injEq] at hx
      subst hx
      simp [h.ev hv, h.evP hus]
    · cases hx
section
variable {P : Program} {Λ : Lay} {n : Nat} {ops all : Array Oper} {Q Q' : Exit → Act → World → Prop} {E E' : Env} {ρ ρ0 ρ' : Gh} {H H' Hk F : Heap} {fuel : Nat} {listed : Array Bool} {rest : List Oper}
theorem V.build (hΛ : OkLay P Λ) {t : Nat} {ps : Array (Nat × Operand)} {i : TI} (hi : lay Λ t = some i) {l : List (TypeId × Nat)} (hu : i.und = .struct l) {pl : List (Nat × Nat)} (hpl : placesL Λ l = some pl) {vs : List (Nat × Value)} (hvs : evP E ps.toList = some vs)
    {cs : List Value} (hf : fillL (fun (k : Nat) => pl[k]?) i.zero vs = some cs) : VAL P n E ρ H (.build t ps) (.agg (List.toArray cs)) := ⟨fun ty po af g d a w ha s => by
  obtain ⟨fs, h1, h2⟩ := (hΛ t i hi).struct hu
  obtain ⟨x, z, hx, _, _, hz, hzl⟩ := (hΛ t i hi).infos
  have hp := placesL_spec hΛ fs.toList l pl h2 hpl
  have hzc : z.cells = i.zero.toArray := by apply Array.ext'; simpa using hzl
  have hfill := fill_of (fun (k : Nat) => pl[k]?) vs i.zero cs hf
  have hb : P.built t vs = some cs.toArray := by
    unfold Program.built
    simp only [hx, h1, hz, hp, hzc]
    have : (fun (k : Nat) => pl.toArray[k]?) = (fun (k : Nat) => pl[k]?) := by funext k; simp
    rw [this]
    exact hfill
  have e1 : (ps.map fun (p : Nat × Operand) => (p.1, a.eval p.2)).toList = vs := by simpa using ha.evP hvs
  have e2 := run_build (P := P) w t (ps.map fun (p : Nat × Operand) => (p.1, a.eval p.2)) cs.toArray (by rw [e1]; exact hb)
  simp only [execOp, Sem.run_bind]
  have e3 : (ps.map fun x => match x with | (i, x) => (i, a.eval x)) = ps.map fun (p : Nat × Operand) => (p.1, a.eval p.2) := rfl
  rw [e3, e2]
  simp⟩
/-! A slice's literal: a new block, owned or never written -/
theorem made_rep (z : List Value) (k : Nat) (h : 0 < z.length) : (Array.range (k * z.length)).map (fun j => z.toArray[j % z.toArray.size]!) = ((List.replicate k z).flatten).toArray := by
  apply Array.ext'
  apply List.ext_getElem
  · simp
  · intro j h1 h2
    simp only [Array.toList_map, Array.toList_range, List.getElem_map, List.getElem_range, List.size_toArray]
    have hm : j % z.length < z.length := Nat.mod_lt _ h
    rw [getElem!_pos z.toArray (j % z.length) (by simpa using hm)]
    simp only [List.getElem_toArray]
    have key : ∀ (k j : Nat) (hj : j < ((List.replicate k z).flatten).length), ((List.replicate k z).flatten)[j] = z[j % z.length]'(Nat.mod_lt _ h) := by
      intro k
      induction k with
      | zero => intro j hj; simp at hj
      | succ k ih =>
        intro j hj
        simp only [List.replicate_succ, List.flatten_cons]
        by_cases hlt : j < z.length
        · rw [List.getElem_append_left hlt]
          simp [Nat.mod_eq_of_lt hlt]
        · rw [List.getElem_append_right (by omega), ih]
          congr 1
          rw [Nat.mod_eq_sub_mod (by omega : j ≥ z.length)]
    exact (key k j (by simpa using h2)).symm
theorem run_buildSlice (hΛ : OkLay P Λ) {t len : Nat} {e : TypeId} {ei : TI} (hu : undOf Λ t = some (.slice e)) (he : lay Λ e = some ei) {vs : List (Nat × Value)} {sz : Nat} (hsz : ei.size = sz) (hz : Nat.beq ei.zero.length sz = true) (hpos : Nat.blt 0 sz = true) (hlen : Nat.blt 0 len = true) (hbig : Nat.ble (len * sz) 16777216 = true)
    {cs : List Value} (hf : fillL (fun k => some (k * sz, sz)) (List.replicate len ei.zero).flatten vs = some cs) (w : World) {ps : Array (Nat × Value)} (hps : ps.toList = vs) :
    (Instr.buildSlice t len ps).run P w = .ok (.slice (some ⟨w.heap.size, 0, none⟩) len len) (w.alloc (.cells cs.toArray e)) := by
  obtain ⟨i, hi, hu⟩ := undOf_spec hΛ hu
  have h1 := (hΛ e ei he).sizeOf w
  obtain ⟨z, hz1, hz2⟩ := (hΛ e ei he).zeroValue w
  have hzc : z.cells = ei.zero.toArray := by apply Array.ext'; simpa using hz2
  have hzl : ei.zero.length = sz := Nat.eq_of_beq_eq_true hz
  have hp : 0 < sz := by simpa [Nat.blt_eq] using hpos
  have hl : 0 < len := by simpa [Nat.blt_eq] using hlen
  have hb := Nat.le_of_ble_eq_true hbig
  have hfill := fill_of (fun k => some (k * sz, sz)) vs _ cs hf
  have hm := made_rep ei.zero len (by omega)
  rw [hzl] at hm
  have h0 : ¬ (len * sz = 0) := by
    have := Nat.mul_pos hl hp
    omega
  subst hsz
  simp only [Instr.buildSlice, Sem.run_bind, run_underlying (hi.slice hu), Result.andThen_ok, h1]
  rw [if_neg (by omega)]
  simp [h0, hz1, hzc, hps, newRow]
  simp only [List.size_toArray] at hm
  have hm2 : (fun (x : Nat) => ei.zero[x % ei.zero.length]?.getD default) = (fun (j : Nat) => ei.zero.toArray[j % ei.zero.length]!) := by funext x; simp
  rw [hm2, hm, hfill]
  simp
theorem WL.buildSlice (hΛ : OkLay P Λ) {d : Nat} {ty : TypeId} {po : String} {af : Array Edge} {g : Option (Nat × Bool)} {t len : Nat} {ps : Array (Nat × Operand)} {e : TypeId} {ei : TI} (hu : undOf Λ t = some (.slice e)) (he : lay Λ e = some ei) {sz : Nat} (hsz : ei.size = sz)
    (hz : Nat.beq ei.zero.length sz = true) (hpos : Nat.blt 0 sz = true) (hlen : Nat.blt 0 len = true) (hbig : Nat.ble (len * sz) 16777216 = true) {vs : List (Nat × Value)} (hvs : evP E ps.toList = some vs)
    {cs : List Value} (hf : fillL (fun k => some (k * sz, sz)) (List.replicate len ei.zero).flatten vs = some cs) {bx cx : Bool} (hw : wants E all g = some (bx, cx)) [hsm : Same bx cx] (hd : Nat.blt d n = true)
    (k : ∀ b, WL P n all Q rest ((d, .slice (some ⟨b, 0, none⟩) len len) :: E) ρ (.obj b (.cells (List.toArray cs) e (0, 0)) :: H)) : WL P n all Q (⟨some d, .buildSlice t len ps, ty, po, af, g⟩ :: rest) E ρ H :=
  WL.step (o := ⟨some d, .buildSlice t len ps, ty, po, af, g⟩) hw fun a w hA s => by
    have e1 : (ps.map fun (p : Nat × Operand) => (p.1, a.eval p.2)).toList = vs := by simpa using hA.evP hvs
    have e2 := run_buildSlice (P := P) hΛ hu he hsz hz hpos hlen hbig hf w e1
    refine wp_of_value (w' := w.alloc (.cells cs.toArray e)) (v := .slice (some ⟨w.heap.size, 0, none⟩) len len) ?_ ((k w.heap.size).go _ _ (hA.put (d := some d) _ hd) (s.alloc _))
    have e3 : (ps.map fun x => match x with | (i, x) => (i, a.eval x)) = ps.map fun (p : Nat × Operand) => (p.1, a.eval p.2) := rfl
    simp only [execOp, Sem.run_bind, e3, e2]
    simp
/-- .. never written from now on. -/
theorem WL.buildRO (hΛ : OkLay P Λ) {d : Nat} {ty : TypeId} {po : String} {af : Array Edge} {g : Option (Nat × Bool)} {t len : Nat} {ps : Array (Nat × Operand)} {e : TypeId} {ei : TI} (hu : undOf Λ t = some (.slice e)) (he : lay Λ e = some ei) {sz : Nat} (hsz : ei.size = sz)
    (hz : Nat.beq ei.zero.length sz = true) (hpos : Nat.blt 0 sz = true) (hlen : Nat.blt 0 len = true) (hbig : Nat.ble (len * sz) 16777216 = true) {vs : List (Nat × Value)} (hvs : evP E ps.toList = some vs)
    {cs : List Value} (hf : fillL (fun k => some (k * sz, sz)) (List.replicate len ei.zero).flatten vs = some cs) {bx cx : Bool} (hw : wants E all g = some (bx, cx)) [hsm : Same bx cx] (hd : Nat.blt d n = true)
    (k : ∀ b ρ', ρ ≤ ρ' → ρ'.cells b 0 cs → WL P n all Q rest ((d, .slice (some ⟨b, 0, none⟩) len len) :: E) ρ' H) : WL P n all Q (⟨some d, .buildSlice t len ps, ty, po, af, g⟩ :: rest) E ρ H :=
  WL.buildSlice hΛ hu he hsz hz hpos hlen hbig hvs hf hw hd fun b => WL.freeze fun ρ' hle ho => k b ρ' hle (Gh.cells_of_obj ho)

/-- A slice that reads so, for ever; nil is let in. -/
def SlR (ρ : Gh) (sz : Nat) (v : Value) (cs : List Value) : Prop := ∃ A m c, v = .slice A m c ∧ cs.length = m * sz ∧ m ≤ c ∧ (0 < m → ∃ b p, A = some ⟨b, p, none⟩ ∧ ρ.cells b p cs)
theorem SlR.le {ρ ρ' : Gh} (h : ρ ≤ ρ') {sz : Nat} {v : Value} {cs : List Value} (s : SlR ρ sz v cs) : SlR ρ' sz v cs := by
  obtain ⟨A, m, c, h1, h2, h3, h4⟩ := s
  exact ⟨A, m, c, h1, h2, h3, fun hm => let ⟨b, p, e, hc⟩ := h4 hm; ⟨b, p, e, Gh.cells_le h hc⟩⟩
theorem SlR.of_cells {b p m c sz : Nat} {cs : List Value} (h : ρ.cells b p cs) (hl : cs.length = m * sz) (hc : m ≤ c) : SlR ρ sz (.slice (some ⟨b, p, none⟩) m c) cs := ⟨_, m, c, rfl, hl, hc, fun _ => ⟨b, p, rfl, h⟩⟩
theorem SlR.nil {sz c : Nat} {A : Option Addr} : SlR ρ sz (.slice A 0 c) [] := ⟨A, 0, c, rfl, by simp, by omega, fun h => absurd h (by omega)⟩
theorem Gh.cells_drop {b p k : Nat} {cs : List Value} (h : ρ.cells b p cs) : ρ.cells b (p + k) (cs.drop k) := fun j v hv => by
  rw [List.getElem?_drop] at hv
  have := h _ _ hv
  rwa [← Nat.add_assoc] at this
theorem Gh.cells_take {b p k : Nat} {cs : List Value} (h : ρ.cells b p cs) : ρ.cells b p (cs.take k) := fun j v hv => by
  rw [List.getElem?_take] at hv
  split at hv
  · exact h _ _ hv
  · cases hv

theorem wp_append (hΛ : OkLay P Λ) {t ty e : TypeId} {ei : TI} (hu : undOf Λ t = some (.slice e)) (he : lay Λ e = some ei) {sz : Nat} (hsz : ei.size = sz) (hz : Nat.beq ei.zero.length sz = true) (hpos : Nat.blt 0 sz = true) (hby : Nat.ble ei.bytes 128 = true)
    {v xv : Value} {cs news : List Value} (hx : SlR ρ sz xv news) (h1 : ones news = true) (hb : cs.length + news.length ≤ 1099511627776) {w : World} (s : Sat ρ (.row v e sz cs :: H) w) :
    ∃ v' w', (Builtin.append_ #[t, t] ty #[v, xv]).run P w = .ok v' w' ∧ Sat ρ (.row v' e sz (cs ++ news) :: H) w' := by
  obtain ⟨i, hi, hu⟩ := undOf_spec hΛ hu
  obtain ⟨A, m, c, rfl, hl, hc, hat⟩ := hx
  obtain ⟨x, z, hxi, hs1, hb1, hz1, hz2⟩ := (hΛ e ei he).infos
  obtain ⟨nn, hown⟩ := s.owns.1
  have hp : 0 < sz := by simpa [Nat.blt_eq] using hpos
  have hby' := Nat.le_of_ble_eq_true hby
  have hzs : z.cells.size = sz := by
    have := Nat.eq_of_beq_eq_true hz
    rw [← hz2] at this
    simpa using this
  have hn : nn ≤ cs.length := by rw [hown.1]; exact Nat.le_mul_of_pos_right _ hp
  have hm : m ≤ news.length := by rw [hl]; exact Nat.le_mul_of_pos_right _ hp
  have hsum : nn + m ≤ 1099511627776 := by omega
  have hmul : (nn + m) * ei.bytes ≤ 140737488355328 := by
    have : (nn + m) * ei.bytes ≤ 1099511627776 * 128 := Nat.mul_le_mul hsum hby'
    omega
  have key : ∀ v' w', w'.ownsRow 0 e sz v' (nn + m) (cs ++ news) → w.grownBy w' v.ownBlock → (v'.ownBlock = v.ownBlock ∨ v'.ownBlock = some w.heap.size) → Sat ρ (.row v' e sz (cs ++ news) :: H) w' := by
    intro v' w' ho hg hf
    refine s.turn (h' := .row v' e sz (cs ++ news)) hg ⟨_, ho⟩ ?_
    rcases hf with hf | hf
    · exact .inr (.inl hf)
    · exact .inr (.inr ⟨_, hf, Nat.le_refl _⟩)
  by_cases hm0 : m = 0
  · subst hm0
    have hnil : news = [] := List.eq_nil_of_length_eq_zero (by simpa using hl)
    subst hnil
    refine ⟨v, w, ?_, by simpa using s⟩
    rcases hown.2 with ⟨rfl, rfl⟩ | ⟨gb, cap, cur, rfl, _, hgc, hle, _⟩
    · cases A <;> simp [Builtin.append_, run_underlying (hi.slice hu), sizeOf, typeInfo, hxi, Builtin.lenOf, Builtin.firstCells, loadCells, loadCellsFrom, storeCells]
    · cases A <;> simp [Builtin.append_, run_underlying (hi.slice hu), sizeOf, typeInfo, hxi, Builtin.lenOf, Builtin.firstCells, loadCells, loadCellsFrom, storeCells, hle]
  · obtain ⟨b, p, rfl, hcells⟩ := hat (by omega)
    obtain ⟨v', w', hrun, h2, h3, _, h5⟩ := run_append_own_at (P := P) w 0 t ty e x z sz ei.bytes (hi.slice hu) hxi hz1 (by rw [hs1, hsz]) hb1 hzs hp v nn cs hown ⟨b, p, none⟩ m c news hl
      (fun j u hj => by rw [Addr.add_lit]; exact s.cell (hcells j u hj))
      (fun u hu => by unfold ones at h1; rw [List.all_eq_true] at h1; exact h1 u hu) (by simp only [maxLen]; omega) hmul (Nat.zero_le _)
    exact ⟨v', w', hrun, key v' w' h2 h3 h5⟩
theorem WL.append (hΛ : OkLay P Λ) {d : Nat} {ty : TypeId} {po : String} {af : Array Edge} {g : Option (Nat × Bool)} {t : TypeId} {x y : Operand} {e : TypeId} {ei : TI} (hu : undOf Λ t = some (.slice e)) (he : lay Λ e = some ei) {v xv : Value} (hx : ev E x = some v) (hy : ev E y = some xv) {sz : Nat} (hsz : ei.size = sz)
    (hz : Nat.beq ei.zero.length sz = true) (hpos : Nat.blt 0 sz = true) (hby : Nat.ble ei.bytes 128 = true) {bx cx : Bool} (hw : wants E all g = some (bx, cx)) [hsm : Same bx cx] (hd : Nat.blt d n = true) {cs news : List Value} (hp : Pick (.row v e sz cs) H H') (hr : SlR ρ sz xv news) (h1 : ones news = true) (hb : cs.length + news.length ≤ 1099511627776)
    (k : ∀ v', WL P n all Q rest ((d, v') :: E) ρ (.row v' e sz (cs ++ news) :: H')) : WL P n all Q (⟨some d, .call ⟨.builtin .append, #[x, y], #[t, t]⟩, ty, po, af, g⟩ :: rest) E ρ H :=
  WL.step (o := ⟨some d, .call ⟨.builtin .append, #[x, y], #[t, t]⟩, ty, po, af, g⟩) hw fun a w hA s => by
    obtain ⟨v', w', hrun, s'⟩ := wp_append (P := P) (ty := ty) hΛ hu he hsz hz hpos hby hr h1 hb (s.pick hp)
    refine wp_of_value (w' := w') (v := v') ?_ ((k v').go _ _ (hA.put (d := some d) _ hd) s')
    simp [execOp, resolve, invoke, builtin, hA.ev hx, hA.ev hy, hrun]
/-- A nil slice is a row of one's own. -/
theorem Sat.nilRow {w : World} (s : Sat ρ H w) (e : TypeId) (sz : Nat) : Sat ρ (.row (.slice none 0 0) e sz [] :: H) w :=
  ⟨s.ghost, ⟨⟨0, by simp, .inl ⟨rfl, rfl⟩⟩, (fun b hb => by cases hb), s.owns⟩, s.os, s.tape, s.output⟩
theorem WC.nilRow {c : Code} (e : TypeId) (sz : Nat) (h : WC P n c Q E ρ (.row (.slice none 0 0) e sz [] :: H)) : WC P n c Q E ρ H := ⟨fun a w ha s => h.go a w ha (s.nilRow e sz)⟩
theorem WL.nilRow (e : TypeId) (sz : Nat) (h : WL P n all Q rest E ρ (.row (.slice none 0 0) e sz [] :: H)) : WL P n all Q rest E ρ H := ⟨fun a w ha s => h.go a w ha (s.nilRow e sz)⟩
theorem Sat.rowForm {w : World} {v : Value} {e : TypeId} {sz : Nat} {cs : List Value} (s : Sat ρ (.row v e sz cs :: H) w) : ∃ A m c, v = .slice A m c ∧ cs.length = m * sz ∧ m ≤ c ∧ (0 < m → ∃ b, A = some ⟨b, 0, none⟩) := by
  obtain ⟨m, h⟩ := s.owns.1
  rcases h.2 with ⟨rfl, rfl⟩ | ⟨gb, cap, cur, rfl, _, _, hle, _⟩
  · exact ⟨none, 0, 0, rfl, h.1, by omega, fun h => absurd h (by omega)⟩
  · exact ⟨_, m, cap, rfl, h.1, hle, fun _ => ⟨gb, rfl⟩⟩
theorem WC.rowForm {c : Code} {v : Value} {e : TypeId} {sz : Nat} {cs : List Value} (hp : Pick (.row v e sz cs) H H') (h : ∀ A m cp, v = .slice A m cp → cs.length = m * sz → m ≤ cp → (0 < m → ∃ b, A = some ⟨b, 0, none⟩) → WC P n c Q E ρ H) : WC P n c Q E ρ H := ⟨fun a w ha s =>
  let ⟨A, m, cp, h1, h2, h3, h4⟩ := (s.pick hp).rowForm
  (h A m cp h1 h2 h3 h4).go a w ha s⟩
theorem WL.rowForm {v : Value} {e : TypeId} {sz : Nat} {cs : List Value} (hp : Pick (.row v e sz cs) H H') (h : ∀ A m cp, v = .slice A m cp → cs.length = m * sz → m ≤ cp → (0 < m → ∃ b, A = some ⟨b, 0, none⟩) → WL P n all Q rest E ρ H) : WL P n all Q rest E ρ H := ⟨fun a w ha s =>
  let ⟨A, m, cp, h1, h2, h3, h4⟩ := (s.pick hp).rowForm
  (h A m cp h1 h2 h3 h4).go a w ha s⟩
theorem WX.rowForm {ex : Exit} {v : Value} {e : TypeId} {sz : Nat} {cs : List Value} (hp : Pick (.row v e sz cs) H H') (h : ∀ A m cp, v = .slice A m cp → cs.length = m * sz → m ≤ cp → (0 < m → ∃ b, A = some ⟨b, 0, none⟩) → WX n ex Q E ρ H) : WX n ex Q E ρ H := ⟨fun a w ha s =>
  let ⟨A, m, cp, h1, h2, h3, h4⟩ := (s.pick hp).rowForm
  (h A m cp h1 h2 h3 h4).go a w ha s⟩
/-- A row is never written from now on. -/
theorem Sat.freezeRow {w : World} {v : Value} {e : TypeId} {sz : Nat} {cs : List Value} (s : Sat ρ (.row v e sz cs :: H) w) : ∃ ρ', ρ ≤ ρ' ∧ SlR ρ' sz v cs ∧ Sat ρ' H w := by
  obtain ⟨m, h⟩ := s.owns.1
  rcases h.2 with ⟨rfl, rfl⟩ | ⟨gb, cap, cur, rfl, _, hg, hle, _, hsz, ht⟩
  · have : cs = [] := List.eq_nil_of_length_eq_zero (by simpa using h.1)
    subst this
    exact ⟨ρ, Gh.le_refl _, .nil, s.tail⟩
  · have s2 : Sat ρ (.obj gb (.cells cur e (0, 0)) :: H) w := ⟨s.ghost, ⟨hg, fun b hb => s.owns.2.1 b (by simpa [HL.foot, Value.ownBlock] using hb), s.owns.2.2⟩, s.os, s.tape, s.output⟩
    obtain ⟨hle', s3⟩ := s2.freeze
    refine ⟨_, hle', SlR.of_cells (fun j u hj => ?_) h.1 hle, s3⟩
    have hj' : j < cs.length := (List.getElem?_eq_some_iff.1 hj).1
    rw [← ht, List.getElem?_take_of_lt (by rw [← h.1]; exact hj')] at hj
    simp only [Gh.cell, Gh.add, if_true, Nat.zero_add]
    simpa using hj
theorem WC.freezeRow {c : Code} {v : Value} {e : TypeId} {sz : Nat} {cs : List Value} (hp : Pick (.row v e sz cs) H H') (h : ∀ ρ', ρ ≤ ρ' → SlR ρ' sz v cs → WC P n c Q E ρ' H') : WC P n c Q E ρ H := ⟨fun a w ha s =>
  let ⟨ρ', h1, h2, s'⟩ := (s.pick hp).freezeRow
  (h ρ' h1 h2).go a w ha s'⟩
theorem WL.freezeRow {v : Value} {e : TypeId} {sz : Nat} {cs : List Value} (hp : Pick (.row v e sz cs) H H') (h : ∀ ρ', ρ ≤ ρ' → SlR ρ' sz v cs → WL P n all Q rest E ρ' H') : WL P n all Q rest E ρ H := ⟨fun a w ha s =>
  let ⟨ρ', h1, h2, s'⟩ := (s.pick hp).freezeRow
  (h ρ' h1 h2).go a w ha s'⟩
theorem WX.freezeRow {ex : Exit} {v : Value} {e : TypeId} {sz : Nat} {cs : List Value} (hp : Pick (.row v e sz cs) H H') (h : ∀ ρ', ρ ≤ ρ' → SlR ρ' sz v cs → WX n ex Q E ρ' H') : WX n ex Q E ρ H := ⟨fun a w ha s =>
  let ⟨ρ', h1, h2, s'⟩ := (s.pick hp).freezeRow
  (h ρ' h1 h2).go a w ha s'⟩
end
end Go.SL
