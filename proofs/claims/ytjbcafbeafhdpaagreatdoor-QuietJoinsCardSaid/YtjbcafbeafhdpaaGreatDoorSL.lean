/- A small separation logic over the model's walk: environments by slot, ghost memory that is never written, heaplets that are owned; one rule an operation. -/
import Derived.WalkKit
import Derived.Maps.AppendAt
import Derived.KernelRfl
import Derived.Orders
set_option maxRecDepth 10000
set_option linter.unusedVariables false
set_option linter.unusedSimpArgs false
namespace Go.SL
open Go.RowKit

/-! ### 1. Environments: what is known of the slots -/
abbrev Env := List (Nat × Value)
def find : Env → Nat → Option Value
  | [], _ => none
  | (k, v) :: r, t => bif Nat.beq k t then some v else find r t
def ev (E : Env) : Operand → Option Value
  | .tmp t => find E t
  | .const v => some v
  | .global g => some (.pointer (some ⟨g, 0, none⟩))
  | .func f => some (.func (.func f) #[] #[])
def evs (E : Env) : List Operand → Option (List Value)
  | [] => some []
  | x :: r => match ev E x, evs E r with
    | some v, some vs => some (v :: vs)
    | _, _ => none

structure Ag (n : Nat) (E : Env) (a : Act) : Prop where
  size : a.tmps.size = n
  defers : a.defers = []
  at_ : ∀ t v, find E t = some v → a.tmps.getD t undef = v

theorem Ag.ev {n : Nat} {E : Env} {a : Act} (h : Ag n E a) {x : Operand} {v : Value} (hx : ev E x = some v) : a.eval x = v := by
  cases x with
  | tmp t => exact h.at_ t v hx
  | const u => simpa [SL.ev, Act.eval] using hx
  | global g => simpa [SL.ev, Act.eval] using hx
  | func f => simpa [SL.ev, Act.eval] using hx
theorem Ag.evs {n : Nat} {E : Env} {a : Act} (h : Ag n E a) : ∀ {xs : List Operand} {vs : List Value}, evs E xs = some vs → xs.map a.eval = vs
  | [], vs, hx => by simpa [SL.evs] using hx
  | x :: r, vs, hx => by
    simp only [SL.evs] at hx
    split at hx
    · rename_i v us hv hus
      simp only [Option.some.injEq] at hx
      subst hx
      simp [h.ev hv, h.evs hus]
    · cases hx

def put (E : Env) (d : Option Nat) (v : Value) : Env := match d with | some d => (d, v) :: E | none => E
def dstOk (n : Nat) : Option Nat → Bool | some d => Nat.blt d n | none => true
theorem find_cons (E : Env) (k t : Nat) (v : Value) : find ((k, v) :: E) t = if k = t then some v else find E t := by
  simp only [find]
  by_cases h : k = t
  · subst h; simp
  · have : Nat.beq k t = false := by cases hb : Nat.beq k t with
      | false => rfl
      | true => exact absurd (Nat.eq_of_beq_eq_true hb) h
    simp [this, h]
theorem Ag.put {n : Nat} {E : Env} {a : Act} (h : Ag n E a) {d : Option Nat} (v : Value) (hd : dstOk n d = true) : Ag n (put E d v) (a.put d v) := by
  cases d with
  | none => exact h
  | some d =>
    have hd' : d < n := by simpa [dstOk, Nat.blt_eq] using hd
    refine ⟨by simp [Act.put, h.size], h.defers, fun t u ht => ?_⟩
    rw [SL.put, find_cons] at ht
    simp only [Act.put]
    by_cases hk : d = t
    · subst hk
      simp only [if_true, Option.some.injEq] at ht
      subst ht
      rw [Array.getD_eq_getD_getElem?, Array.getElem?_setIfInBounds_self_of_lt (by rw [h.size]; exact hd')]
      rfl
    · rw [if_neg hk] at ht
      have := h.at_ t u ht
      rw [Array.getD_eq_getD_getElem?] at this ⊢
      rw [Array.getElem?_setIfInBounds_ne hk]
      exact this
def Sub : Env → Env → Prop
  | [], _ => True
  | (t, v) :: r, E => find E t = some v ∧ Sub r E
theorem Sub.find {E' E : Env} (h : Sub E' E) : ∀ {t v}, find E' t = some v → SL.find E t = some v := by
  induction E' with
  | nil => intro t v hf; cases hf
  | cons p r ih =>
    obtain ⟨k, u⟩ := p
    intro t v hf
    rw [find_cons] at hf
    by_cases hk : k = t
    · subst hk
      simp only [if_true, Option.some.injEq] at hf
      subst hf
      exact h.1
    · rw [if_neg hk] at hf
      exact ih h.2 hf
theorem Ag.sub {n : Nat} {E E' : Env} {a : Act} (h : Ag n E a) (hs : Sub E' E) : Ag n E' a := ⟨h.size, h.defers, fun t v ht => h.at_ t v (hs.find ht)⟩
theorem Ag.nil {n : Nat} {E : Env} {a : Act} (h : Ag n E a) : Ag n [] a := ⟨h.size, h.defers, fun _ _ h => by cases h⟩

/-! ### 2. Ghost memory and heaplets -/
structure Gh where
  objs : Nat → Option Obj
  os : Os
  tape : Nat → Question → Nat
  output : Array (Nat × ByteArray)
structure Gh.le (ρ ρ' : Gh) : Prop where
  objs : ∀ b o, ρ.objs b = some o → ρ'.objs b = some o
  os : ρ'.os = ρ.os
  tape : ρ'.tape = ρ.tape
  output : ρ'.output = ρ.output
instance : LE Gh := ⟨Gh.le⟩
theorem Gh.le_refl (ρ : Gh) : ρ ≤ ρ := ⟨fun _ _ h => h, rfl, rfl, rfl⟩
theorem Gh.le_trans {a b c : Gh} (h : a ≤ b) (k : b ≤ c) : a ≤ c := ⟨fun x o hx => k.objs x o (h.objs x o hx), k.os.trans h.os, k.tape.trans h.tape, k.output.trans h.output⟩

/-- What is owned: a block that is known whole; a slice that begins its own block, of a capacity that is not known. -/
inductive HL where
  | obj (b : Nat) (o : Obj)
  | row (v : Value) (e : TypeId) (sz : Nat) (cs : List Value)
abbrev HL.blk (b : Nat) (t : TypeId) (cs : List Value) : HL := .obj b (.cells cs.toArray t (0, 0))
abbrev Heap := List HL
def HL.foot : HL → Option Nat
  | .obj b _ => some b
  | .row v _ _ _ => v.ownBlock
def HL.holds (w : World) : HL → Prop
  | .obj b o => w.heap[b]? = some o
  | .row v e sz cs => ∃ n, w.ownsRow 0 e sz v n cs
/-- Heaplets hold, each in a place of its own, none of it in the ghost memory. -/
def Owns (w : World) (ρ : Gh) : Heap → Prop
  | [] => True
  | h :: H => h.holds w ∧ (∀ b, h.foot = some b → ρ.objs b = none ∧ ∀ g ∈ H, g.foot ≠ some b) ∧ Owns w ρ H
structure Sat (ρ : Gh) (H : Heap) (w : World) : Prop where
  ghost : ∀ b o, ρ.objs b = some o → w.heap[b]? = some o
  owns : Owns w ρ H
  os : w.os = ρ.os
  tape : w.tape = ρ.tape
  output : w.output = ρ.output

theorem Sat.tail {ρ : Gh} {h : HL} {H : Heap} {w : World} (s : Sat ρ (h :: H) w) : Sat ρ H w := ⟨s.ghost, s.owns.2.2, s.os, s.tape, s.output⟩

/-- Membership up to order. -/
class inductive Pick : HL → Heap → outParam Heap → Prop
  | here {h H} : Pick h (h :: H) H
  | there {h g H H'} : Pick h H H' → Pick h (g :: H) (g :: H')
instance (priority := high) {h : HL} {H : Heap} : Pick h (h :: H) H := .here
instance {h g : HL} {H H' : Heap} [p : Pick h H H'] : Pick h (g :: H) (g :: H') := .there p
theorem Pick.mem {h : HL} {H H' : Heap} (p : Pick h H H') : h ∈ H ∧ ∀ g ∈ H', g ∈ H := by
  induction p with
  | here => exact ⟨by simp, fun g hg => by simp [hg]⟩
  | there _ ih => exact ⟨by simp [ih.1], fun g hg => by
      rcases List.mem_cons.1 hg with rfl | hg
      · simp
      · simp [ih.2 g hg]⟩
theorem Owns.pick {w : World} {ρ : Gh} {h : HL} {H H' : Heap} (p : Pick h H H') (o : Owns w ρ H) : Owns w ρ (h :: H') := by
  induction p with
  | here => exact o
  | there p ih =>
    obtain ⟨o1, o2, o3⟩ := o
    obtain ⟨i1, i2, i3⟩ := ih o3
    refine ⟨i1, fun b hb => ⟨(i2 b hb).1, fun k hk => ?_⟩, o1, fun b hb => ⟨(o2 b hb).1, fun k hk => (o2 b hb).2 k (p.mem.2 k hk)⟩, i3⟩
    rcases List.mem_cons.1 hk with rfl | hk
    · intro hf
      exact (o2 b hf).2 h p.mem.1 hb
    · exact (i2 b hb).2 k hk
theorem Sat.pick {ρ : Gh} {h : HL} {H H' : Heap} {w : World} (s : Sat ρ H w) (p : Pick h H H') : Sat ρ (h :: H') w := ⟨s.ghost, s.owns.pick p, s.os, s.tape, s.output⟩

/-- What is left over may be forgotten. -/
class inductive HIn : Heap → Heap → Prop
  | refl (H) : HIn H H
  | drop {H' H} (g) : HIn H' H → HIn H' (g :: H)
  | take {h H' H H''} : Pick h H H'' → HIn H' H'' → HIn (h :: H') H
instance (priority := high) {H : Heap} : HIn H H := .refl H
instance {h : HL} {H' H H'' : Heap} [p : Pick h H H''] [q : HIn H' H''] : HIn (h :: H') H := .take p q
instance (priority := low) {g : HL} {H' H : Heap} [q : HIn H' H] : HIn H' (g :: H) := .drop g q
theorem Owns.sub_mem {w : World} {ρ : Gh} {h : HL} {H' H : Heap} (p : HIn H' H) : ∀ g ∈ H', g ∈ H := by
  induction p with
  | refl => exact fun g h => h
  | drop g _ ih => exact fun k hk => List.mem_cons_of_mem _ (ih k hk)
  | take p _ ih =>
    intro k hk
    rcases List.mem_cons.1 hk with rfl | hk
    · exact p.mem.1
    · exact p.mem.2 k (ih k hk)
theorem Sat.sub {ρ : Gh} {H' H : Heap} {w : World} (s : Sat ρ H w) (p : HIn H' H) : Sat ρ H' w := by
  induction p with
  | refl => exact s
  | drop g _ ih => exact ih s.tail
  | @take h H' H H'' p q ih =>
    have s' := s.pick p
    have s'' := ih s'.tail
    exact ⟨s.ghost, ⟨s'.owns.1, fun b hb => ⟨(s'.owns.2.1 b hb).1, fun g hg => (s'.owns.2.1 b hb).2 g (Owns.sub_mem (w := w) (ρ := ρ) (h := h) q g hg)⟩, s''.owns⟩, s.os, s.tape, s.output⟩

theorem HL.foot_lt {w : World} {h : HL} {b : Nat} (hh : h.holds w) (hf : h.foot = some b) : b < w.heap.size := by
  cases h with
  | obj c o =>
    simp only [HL.foot, Option.some.injEq] at hf
    subst hf
    simp only [HL.holds] at hh
    exact (Array.getElem?_eq_some_iff.1 hh).1
  | row v e sz cs =>
    obtain ⟨n, hh⟩ := hh
    rcases hh.2 with ⟨rfl, _⟩ | ⟨g, cap, cur, rfl, _, hg, _⟩
    · simp [HL.foot, Value.ownBlock] at hf
    · simp only [HL.foot, Value.ownBlock, Option.some.injEq] at hf
      subst hf
      exact (Array.getElem?_eq_some_iff.1 hg).1
/-- A heaplet hangs on its own block alone. -/
theorem HL.holds_of {w w' : World} {h : HL} (hh : h.holds w) (hk : ∀ b, h.foot = some b → w'.heap[b]? = w.heap[b]?) : h.holds w' := by
  cases h with
  | obj b o => exact (hk b rfl).trans hh
  | row v e sz cs =>
    obtain ⟨n, hh⟩ := hh
    refine ⟨n, hh.1, ?_⟩
    rcases hh.2 with h0 | ⟨g, cap, cur, rfl, hb, hg, hr⟩
    · exact .inl h0
    · exact .inr ⟨g, cap, cur, rfl, hb, (hk g rfl).trans hg, hr⟩
theorem Owns.keep {w w' : World} {ρ : Gh} {H : Heap} (o : Owns w ρ H) (hk : ∀ b, (∃ h ∈ H, h.foot = some b) → w'.heap[b]? = w.heap[b]?) : Owns w' ρ H := by
  induction H with
  | nil => trivial
  | cons h H ih =>
    obtain ⟨o1, o2, o3⟩ := o
    exact ⟨HL.holds_of o1 fun b hb => hk b ⟨h, by simp, hb⟩, o2, ih o3 fun b ⟨g, hg, hb⟩ => hk b ⟨g, by simp [hg], hb⟩⟩
theorem Owns.lt {w : World} {ρ : Gh} {H : Heap} (o : Owns w ρ H) {h : HL} (hm : h ∈ H) {b : Nat} (hb : h.foot = some b) : b < w.heap.size := by
  induction H with
  | nil => cases hm
  | cons g H ih =>
    rcases List.mem_cons.1 hm with rfl | hm
    · exact HL.foot_lt o.1 hb
    · exact ih o.2.2 hm
theorem Sat.ghost_lt {ρ : Gh} {H : Heap} {w : World} (s : Sat ρ H w) {b : Nat} {o : Obj} (h : ρ.objs b = some o) : b < w.heap.size := (Array.getElem?_eq_some_iff.1 (s.ghost b o h)).1

/-- One heaplet turned into another one by a step that leaves all other blocks alone. -/
theorem Sat.turn {ρ : Gh} {h h' : HL} {H : Heap} {w w' : World} (s : Sat ρ (h :: H) w) (hg : w.grownBy w' h.foot) (hh : h'.holds w')
    (hf : h'.foot = none ∨ h'.foot = h.foot ∨ ∃ b, h'.foot = some b ∧ w.heap.size ≤ b) : Sat ρ (h' :: H) w' := by
  have hkeep : ∀ b, b < w.heap.size → h.foot ≠ some b → w'.heap[b]? = w.heap[b]? := fun b hb hne => hg.block b hb (fun e => hne e.symm)
  refine ⟨fun b o hb => ?_, ⟨hh, fun b hb => ?_, s.owns.2.2.keep fun b ⟨g, hgm, hb⟩ => ?_⟩, hg.os.trans s.os, hg.tape.trans s.tape, hg.output.trans s.output⟩
  · refine (hkeep b (s.ghost_lt hb) fun e => ?_).trans (s.ghost b o hb)
    have := (s.owns.2.1 b e).1
    rw [hb] at this
    cases this
  · rcases hf with hf | hf | ⟨c, hf, hc⟩
    · rw [hf] at hb; cases hb
    · exact s.owns.2.1 b (hf ▸ hb)
    · rw [hf] at hb
      injection hb with hb
      subst hb
      refine ⟨?_, fun g hgm hgf => ?_⟩
      · cases ho : ρ.objs c with
        | none => rfl
        | some o => have := s.ghost_lt ho; omega
      · have := s.owns.2.2.lt hgm hgf; omega
  · exact hkeep b (s.owns.2.2.lt hgm hb) fun e => (s.owns.2.1 b e).2 g hgm hb
/-- A new block. -/
theorem Sat.alloc {ρ : Gh} {H : Heap} {w : World} (s : Sat ρ H w) (o : Obj) : Sat ρ (.obj w.heap.size o :: H) { w with heap := w.heap.push o } := by
  refine ⟨fun b x hb => ?_, ⟨by simp [HL.holds], fun b hb => ?_, s.owns.keep fun b ⟨g, hg, hb⟩ => ?_⟩, s.os, s.tape, s.output⟩
  · have := s.ghost_lt hb
    rw [Array.getElem?_push_lt (by omega), ← Array.getElem?_eq_getElem]
    exact s.ghost b x hb
  · simp only [HL.foot, Option.some.injEq] at hb
    subst hb
    refine ⟨?_, fun g hgm hgf => ?_⟩
    · cases ho : ρ.objs w.heap.size with
      | none => rfl
      | some o => have := s.ghost_lt ho; omega
    · have := s.owns.lt hgm hgf; omega
  · have := s.owns.lt hg hb
    rw [Array.getElem?_push_lt (by omega), Array.getElem?_eq_getElem]
theorem Sat.drewn {ρ : Gh} {H : Heap} {w : World} (s : Sat ρ H w) (n : Nat) : Sat ρ H { w with drawn := n } := by
  refine ⟨s.ghost, s.owns.keep fun _ _ => rfl, s.os, s.tape, s.output⟩

/-- From now on never written. -/
def Gh.add (ρ : Gh) (b : Nat) (o : Obj) : Gh := { ρ with objs := fun c => if c = b then some o else ρ.objs c }
theorem Sat.freeze {ρ : Gh} {b : Nat} {o : Obj} {H : Heap} {w : World} (s : Sat ρ (.obj b o :: H) w) : ρ ≤ ρ.add b o ∧ Sat (ρ.add b o) H w := by
  have hb := s.owns.2.1 b rfl
  refine ⟨⟨fun c x hc => ?_, rfl, rfl, rfl⟩, fun c x hc => ?_, ?_, s.os, s.tape, s.output⟩
  · simp only [Gh.add]
    by_cases h : c = b
    · subst h; rw [hb.1] at hc; cases hc
    · rw [if_neg h]; exact hc
  · simp only [Gh.add] at hc
    by_cases h : c = b
    · subst h
      rw [if_pos rfl] at hc
      injection hc with hc
      subst hc
      exact s.owns.1
    · rw [if_neg h] at hc; exact s.ghost c x hc
  · have : ∀ (H : Heap), Owns w ρ H → (∀ g ∈ H, g.foot ≠ some b) → Owns w (ρ.add b o) H := by
      intro H
      induction H with
      | nil => exact fun _ _ => trivial
      | cons g H ih =>
        intro o hn
        refine ⟨o.1, fun c hc => ⟨?_, (o.2.1 c hc).2⟩, ih o.2.2 fun k hk => hn k (by simp [hk])⟩
        simp only [Gh.add]
        rw [if_neg (fun (e : c = b) => hn g (by simp) (e ▸ hc))]
        exact (o.2.1 c hc).1
    exact this H s.owns.2.2 hb.2
end Go.SL
