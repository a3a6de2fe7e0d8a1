/- A small library for walks and plain laws. It proves no statement by itself. -/
import Derived.WalkKit
import Derived.Deep.Quiet
import Derived.Deep.LoopGhost
import Derived.OrdersHeld
import Derived.StillTail
import Derived.Lib.QuietBelow
import Derived.Deep.RegionHeld3
import Derived.Lib.SliceRun
import Derived.Deep.Slices
import Derived.Carry
import Derived.OpenShut
import Derived.WideShapes
import Derived.ChangeAt
import Derived.ChangeOld
import Derived.Maps.RangeRun
import Derived.WideKeyEntry
import Derived.Shelf.SlSortCmp.WholeK
/- A small library for walks over a frame and a memory that are told by lists: no condition. -/
namespace Go.K
open Go.RowKit

/-! ### the frame -/
def look (t : Nat) : List (Nat × Value) → Option Value
  | [] => none
  | (s, v) :: r => bif Nat.beq s t then some v else look t r

def ev (fr : List (Nat × Value)) : Operand → Option Value
  | .tmp t => look t fr
  | .const v => some v
  | .global g => some (.pointer (some ⟨g, 0, none⟩))
  | .func f => some (.func (.func f) #[] #[])

structure Fr (n : Nat) (a : Act) (fr : List (Nat × Value)) : Prop where
  size : a.tmps.size = n
  defers : a.defers = []
  slots : ∀ t v, look t fr = some v → a.tmps[t]? = some v

theorem Fr.ev {n : Nat} {a : Act} {fr : List (Nat × Value)} (h : Fr n a fr) {x : Operand} {v : Value} (hx : ev fr x = some v) : a.eval x = v := by
  cases x with
  | tmp t =>
    have := h.slots t v hx
    simp [Act.eval, this]
  | const u => exact Option.some.inj hx
  | global g => exact Option.some.inj hx
  | func f => exact Option.some.inj hx

theorem Fr.put {n : Nat} {a : Act} {fr : List (Nat × Value)} (h : Fr n a fr) {d : Nat} (v : Value) (hd : Nat.blt d n = true) : Fr n (a.put (some d) v) ((d, v) :: fr) := by
  have hd' : d < n := Nat.le_of_ble_eq_true hd
  refine ⟨by simp [Act.put, h.size], by simp [Act.put, h.defers], fun t u hu => ?_⟩
  simp only [look] at hu
  cases hb : Nat.beq d t with
  | true =>
    have : d = t := Nat.eq_of_beq_eq_true hb
    subst this
    simp only [hb, cond_true] at hu
    cases hu
    simp [Act.put, h.size, hd']
  | false =>
    have : d ≠ t := Nat.ne_of_beq_eq_false hb
    simp only [hb, cond_false] at hu
    have := h.slots t u hu
    simp [Act.put, Array.getElem?_setIfInBounds_ne ‹d ≠ t›, this]

theorem Fr.put0 {n : Nat} {a : Act} {fr : List (Nat × Value)} (h : Fr n a fr) (v : Value) : Fr n (a.put none v) fr := h

theorem Fr.topb {n : Nat} {a : Act} {fr : List (Nat × Value)} {d : Nat} {b c : Bool} (h : Fr n a ((d, .bool b) :: fr)) (e : b = c) : Fr n a ((d, .bool c) :: fr) := e ▸ h
/-- The newest slot's value, told otherwise. -/
theorem Fr.top {n : Nat} {a : Act} {fr : List (Nat × Value)} {d : Nat} {v u : Value} (h : Fr n a ((d, v) :: fr)) (e : v = u) : Fr n a ((d, u) :: fr) := e ▸ h

def Sub (fr : List (Nat × Value)) : List (Nat × Value) → Prop
  | [] => True
  | p :: r => look p.1 fr = some p.2 ∧ Sub fr r

theorem Sub.look {fr : List (Nat × Value)} : ∀ {fr' : List (Nat × Value)}, Sub fr fr' → ∀ t v, K.look t fr' = some v → K.look t fr = some v
  | [], _, t, v, h => by simp [K.look] at h
  | p :: r, hs, t, v, h => by
    simp only [K.look] at h
    cases hb : Nat.beq p.1 t with
    | true =>
      have : p.1 = t := Nat.eq_of_beq_eq_true hb
      subst this
      simp only [hb, cond_true] at h
      cases h
      exact hs.1
    | false =>
      simp only [hb, cond_false] at h
      exact Sub.look hs.2 t v h

theorem Fr.sub {n : Nat} {a : Act} {fr : List (Nat × Value)} (h : Fr n a fr) (fr' : List (Nat × Value)) (hs : Sub fr fr') : Fr n a fr' :=
  ⟨h.size, h.defers, fun t v hv => h.slots t v (hs.look t v hv)⟩

/-- Does the guard want the operation? -/
def want (ops : Array Oper) (fr : List (Nat × Value)) : Option (Nat × Bool) → Option Bool
  | none => some true
  | some (j, b) => match (ops[j]?).bind (·.dst) with
    | none => none
    | some t => match look t fr with
      | some (.bool c) => some (c == b)
      | some (.tuple _) => some false
      | _ => none

theorem Fr.want {n : Nat} {a : Act} {fr : List (Nat × Value)} (h : Fr n a fr) {ops : Array Oper} {o : Oper} {x : Bool} (hw : want ops fr o.guard = some x) :
    Region.wanted o (yielded ops a.tmps) = x := by
  unfold K.want at hw
  unfold Region.wanted
  cases hg : o.guard with
  | none => rw [hg] at hw; simpa using hw
  | some p =>
    obtain ⟨j, b⟩ := p
    rw [hg] at hw
    simp only at hw ⊢
    unfold yielded
    cases hd : (ops[j]?).bind (·.dst) with
    | none => simp [hd] at hw
    | some t =>
      simp only [hd] at hw
      cases hl : look t fr with
      | none => simp [hl] at hw
      | some v =>
        have hv := h.slots t v hl
        cases v <;> simp only [hl, reduceCtorEq, Option.some.injEq] at hw
        · simp only [Option.bind_some, hv]
          rw [← hw]
          rename_i c
          cases c <;> cases b <;> rfl
        · simp only [Option.bind_some, hv]
          rw [← hw]
          rfl

section steps
variable {P : Program} {ops : Array Oper} {Q : Exit → Act → World → Prop} {rest : List Oper} {a : Act} {w : World} {o : Oper} {n : Nat} {fr : List (Nat × Value)} {d : Nat} {v : Value}

/-- An operation that yields a value and leaves the world alone. -/
theorem s_val (hF : Fr n a fr) (hw : want ops fr o.guard = some true) (hdst : o.dst = some d) (hd : Nat.blt d n = true)
    (hr : (execOp a.eval o).run P w = .ok (.value v) w) (k : ∀ a', Fr n a' ((d, v) :: fr) → wpList P ops Q rest a' w) : wpList P ops Q (o :: rest) a w := by
  unfold wpList
  rw [if_pos (hF.want hw)]
  left
  unfold Oper.wp
  rw [hr, Oper.upon_value, hdst]
  exact k _ (hF.put v hd)

theorem s_skip (hF : Fr n a fr) (hw : want ops fr o.guard = some false) (hdst : o.dst = some d) (hd : Nat.blt d n = true)
    (k : ∀ a', Fr n a' ((d, undef) :: fr) → wpList P ops Q rest a' w) : wpList P ops Q (o :: rest) a w := by
  unfold wpList
  rw [if_neg (by rw [hF.want hw]; exact Bool.false_ne_true), hdst]
  exact k _ (hF.put undef hd)

theorem s_skip0 (hF : Fr n a fr) (hw : want ops fr o.guard = some false) (hdst : o.dst = none)
    (k : ∀ a', Fr n a' fr → wpList P ops Q rest a' w) : wpList P ops Q (o :: rest) a w := by
  unfold wpList
  rw [if_neg (by rw [hF.want hw]; exact Bool.false_ne_true), hdst]
  exact k _ (hF.put0 undef)

/-- An operation that yields a value in another world. -/
theorem s_valw {w' : World} (hF : Fr n a fr) (hw : want ops fr o.guard = some true) (hdst : o.dst = some d) (hd : Nat.blt d n = true)
    (hr : (execOp a.eval o).run P w = .ok (.value v) w') (k : ∀ a', Fr n a' ((d, v) :: fr) → wpList P ops Q rest a' w') : wpList P ops Q (o :: rest) a w := by
  unfold wpList
  rw [if_pos (hF.want hw)]
  left
  unfold Oper.wp
  rw [hr, Oper.upon_value, hdst]
  exact k _ (hF.put v hd)

/-- An operation that yields nothing (a store). -/
theorem s_nov {w' : World} (hF : Fr n a fr) (hw : want ops fr o.guard = some true) (hdst : o.dst = none)
    (hr : (execOp a.eval o).run P w = .ok .skip w') (k : ∀ a', Fr n a' fr → wpList P ops Q rest a' w') : wpList P ops Q (o :: rest) a w := by
  unfold wpList
  rw [if_pos (hF.want hw)]
  left
  unfold Oper.wp
  rw [hr, Oper.upon_skip, hdst]
  exact k _ (hF.put0 undef)

/-- A call of a function that has a body. -/
theorem s_enter {f : FuncId} {args : Array Value} {R : World → Value → Prop} (hF : Fr n a fr) (hw : want ops fr o.guard = some true) (hdst : o.dst = some d) (hd : Nat.blt d n = true)
    (hr : (execOp a.eval o).run P w = .ok (.enter f args) w)
    (hc : Calls P f args w fun e w' => ∃ v, e = .returned v ∧ R w' v)
    (k : ∀ a' w' v, Fr n a' ((d, v) :: fr) → R w' v → wpList P ops Q rest a' w') : wpList P ops Q (o :: rest) a w := by
  unfold wpList
  rw [if_pos (hF.want hw)]
  left
  unfold Oper.wp
  rw [hr, Oper.upon_enter, hdst]
  refine hc.mono ?_
  rintro e w' ⟨v, rfl, h⟩
  exact k _ w' v (hF.put v hd) h

theorem s_region {id : Nat} {l : List Oper} (h : wpList P l.toArray Q l a w) : (Code.region id l.toArray false).wp P Q a w := wp_region_lit h
theorem s_nil (h : Q .normal a w) : wpList P ops Q [] a w := h

theorem s_cond_t {c : Operand} {x y : Code} {b : Bool} (hF : Fr n a fr) (hc : ev fr c = some (.bool b)) (hb : b = true) (h : x.wp P Q a w) : (Code.cond c x y).wp P Q a w :=
  wp_cond_true (by rw [hF.ev hc, hb]) h
theorem s_cond_f {c : Operand} {x y : Code} {b : Bool} (hF : Fr n a fr) (hc : ev fr c = some (.bool b)) (hb : b = false) (h : y.wp P Q a w) : (Code.cond c x y).wp P Q a w :=
  wp_cond_false (by rw [hF.ev hc, hb]) h

/-- A loop by a number of rounds. -/
theorem s_loop {c : Code} (I : Nat → Act → World → Prop) (K : Nat) (h0 : I K a w) (hz : ∀ a w, ¬ I 0 a w)
    (hs : ∀ k a w, I (k + 1) a w → c.wp P (Exit.then (I k) Q) a w) : (Code.loop c).wp P Q a w := by
  refine wp_loop_ghost I K h0 fun k a w h => ?_
  cases k with
  | zero => exact absurd h (hz a w)
  | succ k =>
    refine wp_mono (hs k a w h) fun e a' w' q => ?_
    cases e <;> first | exact q | exact ⟨k, Nat.lt_succ_self k, q⟩
end steps
end Go.K
/- A small library for walks, second part: memory told by a list of what the call owns. -/
namespace Go.K
open Go.RowKit

/-! ### arrays of whole numbers of a fixed length -/
structure Ar (n : Nat) where
  l : List Int
  h : l.length = n

theorem Ar.ext {n : Nat} {a b : Ar n} (e : a.l = b.l) : a = b := by cases a; cases b; cases e; rfl
def Ar.get {n : Nat} (a : Ar n) (i : Int) : Int := a.l.getD i.toNat 0
def Ar.set {n : Nat} (a : Ar n) (i : Int) (v : Int) : Ar n := ⟨a.l.set i.toNat v, by rw [List.length_set]; exact a.h⟩
def Ar.zero (n : Nat) : Ar n := ⟨List.replicate n 0, List.length_replicate⟩
instance (n : Nat) : DecidableEq (Ar n) := fun a b => decidable_of_iff (a.l = b.l) ⟨Ar.ext, fun e => e ▸ rfl⟩

/-! ### parts of memory -/
structure Pt where
  n : Nat
  cs : List Value
  h : cs.length = n
  one : ∀ u ∈ cs, u.oneCell' = true

def ints (l : List Int) : List Value := l.map (.int .i64)
theorem ints_length (l : List Int) : (ints l).length = l.length := by simp [ints]
theorem ints_get (l : List Int) (j : Nat) : (ints l)[j]? = l[j]?.map (.int .i64) := by simp [ints]
theorem ints_one (l : List Int) : ∀ u ∈ ints l, u.oneCell' = true := by
  intro u hu
  simp only [ints, List.mem_map] at hu
  obtain ⟨_, _, rfl⟩ := hu
  rfl

def Pt.int (x : Int) : Pt := ⟨1, [.int .i64 x], rfl, by simp [Value.oneCell']⟩
def Pt.bool (x : Bool) : Pt := ⟨1, [.bool x], rfl, by simp [Value.oneCell']⟩
def Pt.ptr (x : Option Addr) : Pt := ⟨1, [.pointer x], rfl, by simp [Value.oneCell']⟩
def Pt.slice (a : Option Addr) (n c : Nat) : Pt := ⟨1, [.slice a n c], rfl, by simp [Value.oneCell']⟩
def Pt.val (v : Value) (h : v.oneCell' = true) : Pt := ⟨1, [v], rfl, by simpa using h⟩
def Pt.ar {n : Nat} (a : Ar n) : Pt := ⟨n, ints a.l, by rw [ints_length]; exact a.h, ints_one a.l⟩

def cat (ps : List Pt) : List Value := ps.flatMap (·.cs)
def offs : List Pt → Nat
  | [] => 0
  | p :: r => p.n + offs r
theorem cat_length : ∀ ps : List Pt, (cat ps).length = offs ps
  | [] => rfl
  | p :: r => by simp only [cat, List.flatMap_cons, List.length_append, p.h, offs]; rw [← cat_length r]; rfl
theorem cat_cons (p : Pt) (r : List Pt) : cat (p :: r) = p.cs ++ cat r := rfl
theorem cat_append (p r : List Pt) : cat (p ++ r) = cat p ++ cat r := by simp [cat]
theorem cat_one (ps : List Pt) : ∀ u ∈ cat ps, u.oneCell' = true := by
  intro u hu
  simp only [cat, List.mem_flatMap] at hu
  obtain ⟨p, _, h⟩ := hu
  exact p.one u h

/-- Cell j of part k. -/
theorem cat_get : ∀ (ps : List Pt) (k : Nat) (p : Pt) (j : Nat), ps[k]? = some p → j < p.n → (cat ps)[offs (ps.take k) + j]? = p.cs[j]?
  | [], k, p, j, h, _ => by simp at h
  | q :: r, 0, p, j, h, hj => by
    simp at h
    subst h
    simp only [List.take_zero, offs, Nat.zero_add, cat_cons]
    rw [List.getElem?_append_left (by rw [q.h]; exact hj)]
  | q :: r, k + 1, p, j, h, hj => by
    simp at h
    simp only [List.take_succ_cons, offs, cat_cons]
    rw [Nat.add_assoc, List.getElem?_append_right (by rw [q.h]; exact Nat.le_add_right _ _), q.h, Nat.add_sub_cancel_left]
    exact cat_get r k p j h hj

/-- A run of parts is a run of cells. -/
theorem cat_take_drop (ps : List Pt) (k m : Nat) : ((cat ps).drop (offs (ps.take k))).take (offs ((ps.drop k).take m)) = cat ((ps.drop k).take m) := by
  have h1 : ps = ps.take k ++ ((ps.drop k).take m ++ (ps.drop k).drop m) := by rw [List.take_append_drop, List.take_append_drop]
  have h2 : cat ps = cat (ps.take k) ++ (cat ((ps.drop k).take m) ++ cat ((ps.drop k).drop m)) := by
    rw [← cat_append, ← cat_append, ← h1]
  rw [h2, ← cat_length (ps.take k), List.drop_left, ← cat_length, List.take_left]

/-- Part k stored anew, of the same number of cells. -/
theorem cat_set (ps : List Pt) (k : Nat) (p q : Pt) (h : ps[k]? = some p) (hn : q.n = p.n) :
    cat (ps.set k q) = (cat ps).take (offs (ps.take k)) ++ q.cs ++ (cat ps).drop (offs (ps.take k) + q.n) := by
  have hk : k < ps.length := by
    rcases Nat.lt_or_ge k ps.length with h' | h'
    · exact h'
    · rw [List.getElem?_eq_none h'] at h; cases h
  have hp : ps[k] = p := by rw [List.getElem?_eq_getElem hk] at h; exact Option.some.inj h
  have h1 : ps = ps.take k ++ (p :: ps.drop (k + 1)) := by rw [← hp, List.getElem_cons_drop, List.take_append_drop]
  have h2 : ps.set k q = ps.take k ++ (q :: ps.drop (k + 1)) := by
    rw [List.set_eq_take_append_cons_drop, if_pos hk]
  have h3 : cat ps = cat (ps.take k) ++ (p.cs ++ cat (ps.drop (k + 1))) := by
    rw [← cat_cons, ← cat_append, ← h1]
  rw [h2, cat_append, cat_cons, h3, ← cat_length (ps.take k), List.take_left, hn, ← p.h, ← List.append_assoc, ← List.append_assoc]
  congr 1
  rw [← List.length_append, List.drop_left]

theorem offs_set (ps : List Pt) (k : Nat) (p q : Pt) (h : ps[k]? = some p) (hn : q.n = p.n) : offs (ps.set k q) = offs ps := by
  induction ps generalizing k with
  | nil => rfl
  | cons r ps ih =>
    cases k with
    | zero => simp at h; subst h; simp [offs, hn]
    | succ k => simp at h; simp [offs, ih k h]

/-- A struct's or an array's value. -/
abbrev ag (ps : List Pt) : Value := .agg (cat ps).toArray
abbrev pt (b o : Nat) : Value := .pointer (some ⟨b, o, none⟩)

/-! ### what elements of a slice are -/
structure Cd (α : Type) where
  T : Nat
  s : Nat
  b : Nat
  ps : α → List Pt
  v : α → Value
  z : α
  hs : ∀ x, offs (ps x) = s
  hv : ∀ x, (v x).cells = (cat (ps x)).toArray
  pos : 0 < s

def Cd.cells {α : Type} (C : Cd α) (xs : List α) : List Value := xs.flatMap fun x => cat (C.ps x)
theorem Cd.cells_length {α : Type} (C : Cd α) (xs : List α) : (C.cells xs).length = xs.length * C.s := by
  induction xs with
  | nil => simp [Cd.cells]
  | cons x xs ih => simp only [Cd.cells, List.flatMap_cons, List.length_append, cat_length, C.hs, List.length_cons] at *; rw [ih, Nat.succ_mul]; omega
theorem Cd.cells_append {α : Type} (C : Cd α) (xs ys : List α) : C.cells (xs ++ ys) = C.cells xs ++ C.cells ys := by simp [Cd.cells]
theorem Cd.cells_cons {α : Type} (C : Cd α) (x : α) (xs : List α) : C.cells (x :: xs) = cat (C.ps x) ++ C.cells xs := rfl
theorem Cd.cells_one {α : Type} (C : Cd α) (xs : List α) : ∀ u ∈ C.cells xs, u.oneCell' = true := by
  intro u hu
  simp only [Cd.cells, List.mem_flatMap] at hu
  obtain ⟨x, _, h⟩ := hu
  exact cat_one _ u h
/-- Element i's cell j. -/
theorem Cd.cells_get {α : Type} (C : Cd α) : ∀ (xs : List α) (i : Nat) (x : α) (j : Nat), xs[i]? = some x → j < C.s → (C.cells xs)[i * C.s + j]? = (cat (C.ps x))[j]?
  | [], i, x, j, h, _ => by simp at h
  | y :: xs, 0, x, j, h, hj => by
    simp at h
    subst h
    rw [Nat.zero_mul, Nat.zero_add, Cd.cells_cons, List.getElem?_append_left (by rw [cat_length, C.hs]; exact hj)]
  | y :: xs, i + 1, x, j, h, hj => by
    simp at h
    rw [Cd.cells_cons, List.getElem?_append_right (by rw [cat_length, C.hs, Nat.succ_mul]; omega), cat_length, C.hs, Nat.succ_mul]
    rw [show i * C.s + C.s + j - C.s = i * C.s + j by omega]
    exact Cd.cells_get C xs i x j h hj
theorem Cd.cells_take {α : Type} (C : Cd α) (xs : List α) (i : Nat) : C.cells (xs.take i) = (C.cells xs).take (i * C.s) := by
  induction xs generalizing i with
  | nil => simp [Cd.cells]
  | cons x xs ih =>
    cases i with
    | zero => simp [Cd.cells]
    | succ i =>
      have hl : (cat (C.ps x)).length = C.s := by rw [cat_length, C.hs]
      rw [List.take_succ_cons, Cd.cells_cons, Cd.cells_cons, ih, Nat.succ_mul, Nat.add_comm (i * C.s), List.take_append, hl,
        List.take_of_length_le (l := cat (C.ps x)) (by omega), Nat.add_sub_cancel_left]
theorem Cd.cells_drop {α : Type} (C : Cd α) (xs : List α) (i : Nat) : C.cells (xs.drop i) = (C.cells xs).drop (i * C.s) := by
  induction xs generalizing i with
  | nil => simp [Cd.cells]
  | cons x xs ih =>
    cases i with
    | zero => simp
    | succ i =>
      have hl : (cat (C.ps x)).length = C.s := by rw [cat_length, C.hs]
      rw [List.drop_succ_cons, Cd.cells_cons, ih, Nat.succ_mul, Nat.add_comm (i * C.s), List.drop_append, hl,
        List.drop_of_length_le (l := cat (C.ps x)) (by omega), List.nil_append, Nat.add_sub_cancel_left]
theorem Cd.cells_set {α : Type} (C : Cd α) (xs : List α) (i : Nat) (y : α) (h : i < xs.length) :
    C.cells (xs.set i y) = (C.cells xs).take (i * C.s) ++ cat (C.ps y) ++ (C.cells xs).drop (i * C.s + C.s) := by
  rw [List.set_eq_take_append_cons_drop, if_pos h, Cd.cells_append, Cd.cells_cons, Cd.cells_take, Cd.cells_drop, Nat.succ_mul, List.append_assoc]

/-! ### what is held of memory -/
structure Res where
  foot : List Nat
  holds : World → Prop
  stable : ∀ w w' : World, (∀ b ∈ foot, w'.heap[b]? = w.heap[b]?) → holds w → holds w'

/-- A block of its own with these parts. -/
def boxR (b : Nat) (ps : List Pt) (T : Nat) : Res where
  foot := [b]
  holds := fun w => w.heap[b]? = some (.cells (cat ps).toArray T (0, 0))
  stable := fun w w' h hh => by rw [h b (by simp)]; exact hh

/-- A slice of its own. -/
def rowR {α : Type} (C : Cd α) (v : Value) (xs : List α) : Res where
  foot := v.ownBlock.toList
  holds := fun w => w.ownsRow 0 C.T C.s v xs.length (C.cells xs)
  stable := fun w w' h hh => by
    refine ⟨hh.1, ?_⟩
    rcases hh.2 with hn | ⟨g, cap, cur, rfl, hb, hg, rest⟩
    · exact .inl hn
    · exact .inr ⟨g, cap, cur, rfl, hb, by rw [h g (by simp [Value.ownBlock])]; exact hg, rest⟩

/-- All of the memory that was there is as it was, but for the blocks of X. -/
structure Frm (X : List Nat) (w w' : World) : Prop where
  os : w'.os = w.os
  tape : w'.tape = w.tape
  output : w'.output = w.output
  size : w.heap.size ≤ w'.heap.size
  block : ∀ k, k < w.heap.size → k ∉ X → w'.heap[k]? = w.heap[k]?
  drawn : w.drawn ≤ w'.drawn

theorem Frm.refl (X : List Nat) (w : World) : Frm X w w := ⟨rfl, rfl, rfl, Nat.le_refl _, fun _ _ _ => rfl, Nat.le_refl _⟩
theorem Frm.trans {X : List Nat} {a b c : World} (h : Frm X a b) (k : Frm X b c) : Frm X a c :=
  ⟨k.os.trans h.os, k.tape.trans h.tape, k.output.trans h.output, Nat.le_trans h.size k.size,
   fun i hi hx => (k.block i (Nat.lt_of_lt_of_le hi h.size) hx).trans (h.block i hi hx), Nat.le_trans h.drawn k.drawn⟩
theorem Frm.below {w w' : World} (h : Frm [] w w') : Below w.heap.size w w' := ⟨h.os, h.tape, h.output, h.size, fun k hk => h.block k hk (by simp)⟩
theorem Frm.alloc (X : List Nat) (w : World) (o : Obj) : Frm X w (w.alloc o) :=
  ⟨rfl, rfl, rfl, by simp, fun k hk _ => Below.heap_alloc w o k hk, Nat.le_refl _⟩
theorem Frm.drew (X : List Nat) (w : World) : Frm X w w.drew := ⟨rfl, rfl, rfl, Nat.le_refl _, fun _ _ _ => rfl, Nat.le_succ _⟩
/-- Blocks that were not there at the beginning may be written. -/
theorem Frm.later {X Y : List Nat} {a b c : World} (h : Frm X a b) (k : Frm Y b c) (hY : ∀ y ∈ Y, y < a.heap.size → y ∈ X) : Frm X a c :=
  ⟨k.os.trans h.os, k.tape.trans h.tape, k.output.trans h.output, Nat.le_trans h.size k.size,
   fun i hi hx => (k.block i (Nat.lt_of_lt_of_le hi h.size) (fun hy => hx (hY i hy hi))).trans (h.block i hi hx), Nat.le_trans h.drawn k.drawn⟩

/-- What the call holds: the memory that was there (but for the blocks X), and a list of what is its own. -/
structure Ms (X : List Nat) (w0 w : World) (mem : List Res) : Prop where
  frm : Frm X w0 w
  holds : ∀ R ∈ mem, R.holds w
  foots : ∀ R ∈ mem, ∀ b ∈ R.foot, (b ∈ X ∨ w0.heap.size ≤ b) ∧ b < w.heap.size
  disj : mem.Pairwise fun R S => ∀ b ∈ R.foot, b ∉ S.foot

theorem Ms.start (w : World) : Ms [] w w [] := ⟨Frm.refl _ _, by simp, by simp, List.Pairwise.nil⟩
/-- A call that is handed something of its caller's to turn. -/
theorem Ms.start1 (w : World) (R : Res) (h : R.holds w) (hb : ∀ b ∈ R.foot, b < w.heap.size) : Ms R.foot w w [R] :=
  ⟨Frm.refl _ _, by simpa using h, fun S hS b hb2 => by have : S = R := by simpa using hS
                                                        subst this; exact ⟨.inl hb2, hb b hb2⟩, by simp⟩

theorem Ms.get {X : List Nat} {w0 w : World} {mem : List Res} (h : Ms X w0 w mem) (i : Nat) {R : Res} (hi : mem[i]? = some R) : R.holds w := h.holds R (List.mem_of_getElem? hi)

/-- Some of what is held. -/
def picks (mem : List Res) : List Nat → Option (List Res)
  | [] => some []
  | i :: r => match mem[i]? with
    | some R => match picks mem r with
      | some s => some (R :: s)
      | none => none
    | none => none

theorem picks_mem {mem : List Res} : ∀ {l : List Nat} {s : List Res}, picks mem l = some s → ∀ R ∈ s, ∃ i ∈ l, mem[i]? = some R
  | [], s, h, R, hR => by simp [picks] at h; subst h; cases hR
  | i :: r, s, h, R, hR => by
    simp only [picks] at h
    cases hi : mem[i]? with
    | none => simp [hi] at h
    | some R0 =>
      cases hr : picks mem r with
      | none => simp [hi, hr] at h
      | some s0 =>
        simp [hi, hr] at h
        subst h
        rcases List.mem_cons.1 hR with rfl | hR
        · exact ⟨i, by simp, hi⟩
        · obtain ⟨j, hj, hh⟩ := picks_mem hr R hR
          exact ⟨j, List.mem_cons_of_mem _ hj, hh⟩

theorem pairwise_get {mem : List Res} (h : mem.Pairwise fun R S => ∀ b ∈ R.foot, b ∉ S.foot) {i j : Nat} (hij : i ≠ j) {R S : Res} (hi : mem[i]? = some R) (hj : mem[j]? = some S) : ∀ b ∈ R.foot, b ∉ S.foot := by
  have hl := List.pairwise_iff_getElem.1 h
  obtain ⟨hi1, hi2⟩ := List.getElem?_eq_some_iff.1 hi
  obtain ⟨hj1, hj2⟩ := List.getElem?_eq_some_iff.1 hj
  subst hi2
  subst hj2
  rcases Nat.lt_or_gt_of_ne hij with hlt | hgt
  · exact hl i j hi1 hj1 hlt
  · exact fun b hb hb' => hl j i hj1 hi1 hgt b hb' hb

theorem picks_disj {mem : List Res} (h : mem.Pairwise fun R S => ∀ b ∈ R.foot, b ∉ S.foot) : ∀ {l : List Nat} {s : List Res}, l.Nodup → picks mem l = some s → s.Pairwise fun R S => ∀ b ∈ R.foot, b ∉ S.foot
  | [], s, _, hs => by simp [picks] at hs; subst hs; exact List.Pairwise.nil
  | i :: r, s, hd, hs => by
    simp only [picks] at hs
    cases hi : mem[i]? with
    | none => simp [hi] at hs
    | some R0 =>
      cases hr : picks mem r with
      | none => simp [hi, hr] at hs
      | some s0 =>
        simp [hi, hr] at hs
        subst hs
        rw [List.nodup_cons] at hd
        refine List.Pairwise.cons (fun S hS => ?_) (picks_disj h hd.2 hr)
        obtain ⟨j, hj, hh⟩ := picks_mem hr S hS
        exact pairwise_get h (fun e => hd.1 (by rw [e]; exact hj)) hi hh

theorem Ms.pick {X : List Nat} {w0 w : World} {mem mem' : List Res} (h : Ms X w0 w mem) (l : List Nat) (hd : decide l.Nodup = true) (hp : picks mem l = some mem') : Ms X w0 w mem' := by
  have hm : ∀ R ∈ mem', R ∈ mem := fun R hR => let ⟨i, _, hi⟩ := picks_mem hp R hR; List.mem_of_getElem? hi
  exact ⟨h.frm, fun R hR => h.holds R (hm R hR), fun R hR => h.foots R (hm R hR), picks_disj h.disj (of_decide_eq_true hd) hp⟩

/-- The world has grown; nothing that was there has turned. -/
theorem Ms.grow {X : List Nat} {w0 w w' : World} {mem : List Res} (h : Ms X w0 w mem) (hg : Frm [] w w') : Ms X w0 w' mem :=
  ⟨h.frm.later hg (by simp), fun R hR => R.stable w w' (fun b hb => hg.block b (h.foots R hR b hb).2 (by simp)) (h.holds R hR),
   fun R hR b hb => ⟨(h.foots R hR b hb).1, Nat.lt_of_lt_of_le (h.foots R hR b hb).2 hg.size⟩, h.disj⟩

/-- Something new is held. -/
theorem Ms.add {X : List Nat} {w0 w w' : World} {mem : List Res} (h : Ms X w0 w mem) (hg : Frm [] w w') (R : Res) (hR : R.holds w') (hf : ∀ b ∈ R.foot, w.heap.size ≤ b ∧ b < w'.heap.size) : Ms X w0 w' (R :: mem) := by
  have h' := h.grow hg
  refine ⟨h'.frm, fun S hS => ?_, fun S hS => ?_, List.Pairwise.cons (fun S hS b hb hb' => ?_) h'.disj⟩
  · rcases List.mem_cons.1 hS with rfl | hS
    · exact hR
    · exact h'.holds S hS
  · rcases List.mem_cons.1 hS with rfl | hS
    · exact fun b hb => ⟨.inr (Nat.le_trans h.frm.size (hf b hb).1), (hf b hb).2⟩
    · exact h'.foots S hS
  · have := (h.foots S hS b hb').2
    have := (hf b hb).1
    omega

/-- What number i holds has turned. -/
theorem Ms.turn {X : List Nat} {w0 w w' : World} {mem : List Res} {i : Nat} {R R' : Res} (h : Ms X w0 w mem) (hi : mem[i]? = some R) (hg : Frm R.foot w w') (hR : R'.holds w')
    (hf : ∀ b ∈ R'.foot, b ∈ R.foot ∨ (w.heap.size ≤ b ∧ b < w'.heap.size)) : Ms X w0 w' (mem.set i R') := by
  have hmem : R ∈ mem := List.mem_of_getElem? hi
  obtain ⟨hil, hie⟩ := List.getElem?_eq_some_iff.1 hi
  have hne : ∀ j (hj : j < mem.length), j ≠ i → ∀ b ∈ (mem[j]).foot, b ∉ R.foot := fun j hj hji b hb =>
    pairwise_get h.disj hji (List.getElem?_eq_getElem hj) hi b hb
  refine ⟨h.frm.later hg (fun y hy hlt => (h.foots R hmem y hy).1.resolve_right (by omega)), fun S hS => ?_, fun S hS b hb => ?_, ?_⟩
  · obtain ⟨j, hj, he⟩ := List.mem_iff_getElem.1 hS
    rw [List.length_set] at hj
    rw [List.getElem_set] at he
    split at he
    · subst he; exact hR
    · rename_i hij
      subst he
      exact Res.stable _ w w' (fun b hb => hg.block b (h.foots _ (List.getElem_mem hj) b hb).2 (hne j hj (Ne.symm hij) b hb)) (h.holds _ (List.getElem_mem hj))
  · obtain ⟨j, hj, he⟩ := List.mem_iff_getElem.1 hS
    rw [List.length_set] at hj
    rw [List.getElem_set] at he
    split at he
    · subst he
      rcases hf b hb with hb | hb
      · exact ⟨(h.foots R hmem b hb).1, Nat.lt_of_lt_of_le (h.foots R hmem b hb).2 hg.size⟩
      · exact ⟨.inr (Nat.le_trans h.frm.size hb.1), hb.2⟩
    · subst he
      exact ⟨(h.foots _ (List.getElem_mem hj) b hb).1, Nat.lt_of_lt_of_le (h.foots _ (List.getElem_mem hj) b hb).2 hg.size⟩
  · rw [List.pairwise_iff_getElem]
    intro j k hj hk hjk b hb hb'
    rw [List.length_set] at hj hk
    rw [List.getElem_set] at hb hb'
    have hd := List.pairwise_iff_getElem.1 h.disj j k hj hk hjk b
    split at hb
    · rename_i hij
      split at hb'
      · omega
      · rename_i hik
        rcases hf b hb with hb | hb
        · exact hne k hk (Ne.symm hik) b hb' hb
        · have := (h.foots _ (List.getElem_mem hk) b hb').2; omega
    · rename_i hij
      split at hb'
      · rcases hf b hb' with hb' | hb'
        · exact hne j hj (Ne.symm hij) b hb hb'
        · have := (h.foots _ (List.getElem_mem hj) b hb).2; omega
      · exact hd hb hb'

end Go.K
/- A small library for walks, third part: what the operations yield. -/
namespace Go.K
open Go.RowKit

theorem i64_wrap (n : Int) : IntKind.i64.wrap n = wrap64 n := by rw [IntKind.wrap_i64, wrap64]

theorem int_beq (m p : Int) : (m == p) = decide (m = p) := by
  by_cases h : m = p <;> simp [h]

/-! ### reading a slice -/
def sblk : Value → Nat
  | .slice (some a) _ _ => a.block
  | _ => 0
def soff : Value → Nat
  | .slice (some a) _ _ => a.off
  | _ => 0
def scap : Value → Nat
  | .slice _ _ c => c
  | _ => 0

/-- In w, the slice value v reads as xs. -/
structure SlR {α : Type} (C : Cd α) (w : World) (v : Value) (xs : List α) : Prop where
  form : ∃ a, v = .slice a xs.length (scap v) ∧ (xs ≠ [] → a = some ⟨sblk v, soff v, none⟩)
  cap : xs.length ≤ scap v
  cell : ∀ j u, (C.cells xs)[j]? = some u → w.cell? ⟨sblk v, soff v + j, none⟩ = some u

/-- The form of a slice's value, whatever the world. -/
structure SlF (v : Value) (n : Nat) : Prop where
  form : ∃ a, v = .slice a n (scap v) ∧ (n ≠ 0 → a = some ⟨sblk v, soff v, none⟩)
  cap : n ≤ scap v
theorem SlR.toF {α : Type} {C : Cd α} {w : World} {v : Value} {xs : List α} (h : SlR C w v xs) : SlF v xs.length :=
  ⟨let ⟨a, h1, h2⟩ := h.form; ⟨a, h1, fun hn => h2 (by rintro rfl; exact hn rfl)⟩, h.cap⟩

theorem SlR.frm {α : Type} {C : Cd α} {w w' : World} {v : Value} {xs : List α} (h : SlR C w v xs) (hf : Frm [] w w') : SlR C w' v xs := by
  refine ⟨h.form, h.cap, fun j u hu => ?_⟩
  have h1 := h.cell j u hu
  rw [World.cell?_of_block (w := w) (hf.block _ (World.block_lt_of_cell? w _ h1) (by simp))]
  exact h1

theorem SlR.nil {α : Type} (C : Cd α) (w : World) (c : Nat) (a : Option Addr) : SlR C w (.slice a 0 c) [] :=
  ⟨⟨a, rfl, fun h => absurd rfl h⟩, Nat.zero_le _, fun j u hu => by simp [Cd.cells] at hu⟩

theorem add_lit0 (b o n : Nat) : Addr.add ⟨b, o, none⟩ n = ⟨b, o + n, none⟩ := Addr.add_lit b o n

/-- What is owned is read. -/
theorem rowR_sl {α : Type} {C : Cd α} {w : World} {v : Value} {xs : List α} (h : (rowR C v xs).holds w) : SlR C w v xs := by
  obtain ⟨hl, h⟩ := h
  rcases h with ⟨rfl, hn⟩ | ⟨g, cap, cur, rfl, _, hg, hnc, hcm, hcs, htake⟩
  · have : xs = [] := List.eq_nil_of_length_eq_zero hn
    subst this
    exact SlR.nil C w 0 none
  · refine ⟨⟨_, rfl, fun _ => rfl⟩, hnc, fun j u hu => ?_⟩
    simp only [sblk, soff, Nat.zero_add]
    rw [cell_of_row w g j cur C.T (0, 0) hg]
    rw [← htake, List.getElem?_take] at hu
    split at hu
    · simpa using hu
    · cases hu

theorem Ms.sl {X : List Nat} {α : Type} {C : Cd α} {w0 w : World} {mem : List Res} (h : Ms X w0 w mem) (i : Nat) {v : Value} {xs : List α} (hi : mem[i]? = some (rowR C v xs)) : SlR C w v xs := rowR_sl (h.get i hi)

/-- A part of a slice. -/
def subv (v : Value) (lo hi s : Nat) : Value :=
  match v with
  | .slice a _ c => .slice (if c = lo then a else a.map (·.add (lo * s))) (hi - lo) (c - lo)
  | _ => undef

theorem SlR.sub {α : Type} {C : Cd α} {w : World} {v : Value} {xs : List α} (h : SlR C w v xs) (lo hi : Nat) (h1 : lo ≤ hi) (h2 : hi ≤ xs.length) : SlR C w (subv v lo hi C.s) ((xs.take hi).drop lo) := by
  obtain ⟨a, hv, ha⟩ := h.form
  have hcap := h.cap
  have hcell := h.cell
  rw [hv] at hcap hcell ⊢
  generalize scap v = c at *
  have ha' : xs ≠ [] → ∃ b o, a = some ⟨b, o, none⟩ := fun hx => ⟨_, _, ha hx⟩
  clear hv ha
  simp only [scap] at hcap
  have hlen : ((xs.take hi).drop lo).length = hi - lo := by rw [List.length_drop, List.length_take]; omega
  simp only [subv]
  refine ⟨⟨if c = lo then a else a.map (·.add (lo * C.s)), by rw [hlen]; rfl, fun hne => ?_⟩, by rw [hlen]; simp only [scap]; omega, fun j u hu => ?_⟩
  · have hx : xs ≠ [] := by rintro rfl; simp at hne
    obtain ⟨b, o, rfl⟩ := ha' hx
    by_cases hc : c = lo
    · simp [hc, sblk, soff]
    · simp [hc, sblk, soff, add_lit0]
  · have hj : j < (C.cells ((xs.take hi).drop lo)).length := (List.getElem?_eq_some_iff.1 hu).1
    have hpos := C.pos
    rw [Cd.cells_length, hlen] at hj
    have hlt : lo < hi := by
      rcases Nat.lt_or_ge lo hi with h' | h'
      · exact h'
      · rw [Nat.sub_eq_zero_of_le h', Nat.zero_mul] at hj; omega
    have hx : xs ≠ [] := by rintro rfl; simp at h2; omega
    obtain ⟨b, o, rfl⟩ := ha' hx
    have hc : c ≠ lo := by omega
    simp only [if_neg hc, Option.map_some, add_lit0, sblk, soff]
    simp only [sblk, soff] at hcell
    rw [Nat.add_assoc]
    refine hcell (lo * C.s + j) u ?_
    rw [Cd.cells_drop, Cd.cells_take, List.getElem?_drop, List.getElem?_take] at hu
    split at hu
    · exact hu
    · cases hu

/-! ### reading a box -/
theorem Ms.cell {X : List Nat} {w0 w : World} {mem : List Res} (h : Ms X w0 w mem) (i : Nat) {b T : Nat} {ps : List Pt} (hi : mem[i]? = some (boxR b ps T)) (j : Nat) {u : Value} (hj : (cat ps)[j]? = some u) : w.cell? ⟨b, j, none⟩ = some u := by
  have hb : w.heap[b]? = some (.cells (cat ps).toArray T (0, 0)) := h.get i hi
  rw [cell_of_row w b j _ T (0, 0) hb]
  simpa using hj

/-- A whole array of a box, as a slice. -/
theorem Ms.boxSl {X : List Nat} {w0 w : World} {mem : List Res} (h : Ms X w0 w mem) (i : Nat) {b T k o m : Nat} {ps : List Pt} {x : Ar m} (hi : mem[i]? = some (boxR b ps T)) (hk : ps[k]? = some (Pt.ar x)) (ho : offs (ps.take k) = o)
    (C : Cd Int) (hC : ∀ n, C.ps n = [Pt.int n]) (c : Nat) (hc : m ≤ c) : SlR C w (.slice (some ⟨b, o, none⟩) m c) x.l := by
  have hs : C.s = 1 := by have := C.hs 0; rw [hC] at this; simpa [offs, Pt.int] using this.symm
  have hcells : C.cells x.l = ints x.l := by
    induction x.l with
    | nil => rfl
    | cons y ys ih => rw [Cd.cells_cons, hC, ih]; rfl
  refine ⟨⟨some ⟨b, o, none⟩, by rw [x.h]; rfl, fun _ => rfl⟩, by rw [x.h]; exact hc, fun j u hu => ?_⟩
  simp only [sblk, soff]
  rw [hcells] at hu
  refine h.cell i hi _ ?_
  rw [← ho, cat_get ps k _ j hk]
  · exact hu
  · have := (List.getElem?_eq_some_iff.1 hu).1
    rw [ints_length, x.h] at this
    exact this

section evals
variable {X : List Nat} {P : Program} {a : Act} {w w0 : World} {n : Nat} {fr : List (Nat × Value)} {d : Option Tmp} {ty : TypeId} {pos : String} {aft : Array Edge} {g : Option (Nat × Bool)} {x y z : Operand} {v : Value} {m p : Int} {T T' : TypeId} {mem : List Res}

theorem e_move (hF : Fr n a fr) (hx : ev fr x = some v) : (execOp a.eval ⟨d, .move x, ty, pos, aft, g⟩).run P w = .ok (.value v) w := by
  simp [execOp, hF.ev hx]
theorem e_assign (hF : Fr n a fr) (hx : ev fr x = some v) : (execOp a.eval ⟨d, .assign x, ty, pos, aft, g⟩).run P w = .ok (.value v) w := by
  simp [execOp, hF.ev hx]
theorem e_pick_t (hF : Fr n a fr) (hc : ev fr z = some (.bool true)) (hx : ev fr x = some v) : (execOp a.eval ⟨d, .pick z x y, ty, pos, aft, g⟩).run P w = .ok (.value v) w := by
  simp [execOp, hF.ev hc, hF.ev hx, asBool]
theorem e_pick_f (hF : Fr n a fr) (hc : ev fr z = some (.bool false)) (hx : ev fr y = some v) : (execOp a.eval ⟨d, .pick z x y, ty, pos, aft, g⟩).run P w = .ok (.value v) w := by
  simp [execOp, hF.ev hc, hF.ev hx, asBool]

section bin
variable (hF : Fr n a fr) (hx : ev fr x = some (.int .i64 m)) (hy : ev fr y = some (.int .i64 p))
include hF hx hy
theorem e_add : (execOp a.eval ⟨d, .binOp .add T x y T', ty, pos, aft, g⟩).run P w = .ok (.value (.int .i64 (wrap64 (m + p)))) w := by
  simp [execOp, hF.ev hx, hF.ev hy, eqGuard, binOp, Op.intArith, i64_wrap]
theorem e_sub : (execOp a.eval ⟨d, .binOp .sub T x y T', ty, pos, aft, g⟩).run P w = .ok (.value (.int .i64 (wrap64 (m - p)))) w := by
  simp [execOp, hF.ev hx, hF.ev hy, eqGuard, binOp, Op.intArith, i64_wrap]
theorem e_mul : (execOp a.eval ⟨d, .binOp .mul T x y T', ty, pos, aft, g⟩).run P w = .ok (.value (.int .i64 (wrap64 (m * p)))) w := by
  simp [execOp, hF.ev hx, hF.ev hy, eqGuard, binOp, Op.intArith, i64_wrap]
theorem e_quo (h : p ≠ 0) : (execOp a.eval ⟨d, .binOp .quo T x y T', ty, pos, aft, g⟩).run P w = .ok (.value (.int .i64 (wrap64 (m.tdiv p)))) w := by
  simp [execOp, hF.ev hx, hF.ev hy, eqGuard, binOp, Op.intDiv, h, i64_wrap]
theorem e_rem (h : p ≠ 0) : (execOp a.eval ⟨d, .binOp .rem T x y T', ty, pos, aft, g⟩).run P w = .ok (.value (.int .i64 (m.tmod p))) w := by
  simp [execOp, hF.ev hx, hF.ev hy, eqGuard, binOp, Op.intDiv, h]
theorem e_eql : (execOp a.eval ⟨d, .binOp .eql T x y T', ty, pos, aft, g⟩).run P w = .ok (.value (.bool (decide (m = p)))) w := by
  simp [execOp, hF.ev hx, hF.ev hy, eqGuard, binOp, Op.intCmp, int_beq]
theorem e_neq : (execOp a.eval ⟨d, .binOp .neq T x y T', ty, pos, aft, g⟩).run P w = .ok (.value (.bool (!decide (m = p)))) w := by
  simp [execOp, hF.ev hx, hF.ev hy, eqGuard, binOp, Op.intCmp, bne, int_beq]
theorem e_lss : (execOp a.eval ⟨d, .binOp .lss T x y T', ty, pos, aft, g⟩).run P w = .ok (.value (.bool (decide (m < p)))) w := by
  simp [execOp, hF.ev hx, hF.ev hy, eqGuard, binOp, Op.intCmp]
theorem e_leq : (execOp a.eval ⟨d, .binOp .leq T x y T', ty, pos, aft, g⟩).run P w = .ok (.value (.bool (decide (m ≤ p)))) w := by
  simp [execOp, hF.ev hx, hF.ev hy, eqGuard, binOp, Op.intCmp]
theorem e_gtr : (execOp a.eval ⟨d, .binOp .gtr T x y T', ty, pos, aft, g⟩).run P w = .ok (.value (.bool (decide (p < m)))) w := by
  simp [execOp, hF.ev hx, hF.ev hy, eqGuard, binOp, Op.intCmp]
theorem e_geq : (execOp a.eval ⟨d, .binOp .geq T x y T', ty, pos, aft, g⟩).run P w = .ok (.value (.bool (decide (p ≤ m)))) w := by
  simp [execOp, hF.ev hx, hF.ev hy, eqGuard, binOp, Op.intCmp]
theorem e_shl (h : 0 ≤ p) : (execOp a.eval ⟨d, .binOp .shl T x y T', ty, pos, aft, g⟩).run P w = .ok (.value (.int .i64 (wrap64 (m * 2 ^ (min p.toNat 64))))) w := by
  simp [execOp, hF.ev hx, hF.ev hy, eqGuard, binOp, Op.shift, Int.not_lt.2 h, i64_wrap, IntKind.bits]
theorem e_shr (h : 0 ≤ p) : (execOp a.eval ⟨d, .binOp .shr T x y T', ty, pos, aft, g⟩).run P w = .ok (.value (.int .i64 (m.fdiv (2 ^ (min p.toNat 64))))) w := by
  simp [execOp, hF.ev hx, hF.ev hy, eqGuard, binOp, Op.shift, Int.not_lt.2 h, IntKind.bits]
theorem e_and : (execOp a.eval ⟨d, .binOp .and T x y T', ty, pos, aft, g⟩).run P w = .ok (.value (.int .i64 (bits .and .i64 m p))) w := by
  simp [execOp, hF.ev hx, hF.ev hy, eqGuard, binOp, intBits_and]
theorem e_or : (execOp a.eval ⟨d, .binOp .or T x y T', ty, pos, aft, g⟩).run P w = .ok (.value (.int .i64 (bits .or .i64 m p))) w := by
  simp [execOp, hF.ev hx, hF.ev hy, eqGuard, binOp, intBits_or]
end bin

section bools
variable {b c : Bool}
theorem e_beql (hF : Fr n a fr) (hx : ev fr x = some (.bool b)) (hy : ev fr y = some (.bool c)) (hu : P.underlying T = some .bool) : (execOp a.eval ⟨d, .binOp .eql T x y T', ty, pos, aft, g⟩).run P w = .ok (.value (.bool (b == c))) w := by
  have h : (binOp .eql T (.bool b) (.bool c)).run P w = .ok (.bool (b == c)) w := by
    simp only [binOp, Sem.run_bind, Op.equal, Op.maxDepth, run_equalIn_bool' w _ T b c hu, Result.andThen_ok, Sem.run_pure]
  simp [execOp, hF.ev hx, hF.ev hy, eqGuard_at_bool, h]
theorem e_bneq (hF : Fr n a fr) (hx : ev fr x = some (.bool b)) (hy : ev fr y = some (.bool c)) (hu : P.underlying T = some .bool) : (execOp a.eval ⟨d, .binOp .neq T x y T', ty, pos, aft, g⟩).run P w = .ok (.value (.bool (!(b == c)))) w := by
  have h : (binOp .neq T (.bool b) (.bool c)).run P w = .ok (.bool (!(b == c))) w := by
    simp only [binOp, Sem.run_bind, Op.equal, Op.maxDepth, run_equalIn_bool' w _ T b c hu, Result.andThen_ok, Sem.run_pure]
  simp [execOp, hF.ev hx, hF.ev hy, eqGuard_at_bool, h]
theorem e_not (hF : Fr n a fr) (hx : ev fr x = some (.bool b)) : (execOp a.eval ⟨d, .unOp .not T x, ty, pos, aft, g⟩).run P w = .ok (.value (.bool (!b))) w := by
  simp [execOp, hF.ev hx, Op.unary]
theorem e_neg (hF : Fr n a fr) (hx : ev fr x = some (.int .i64 m)) : (execOp a.eval ⟨d, .unOp .neg T x, ty, pos, aft, g⟩).run P w = .ok (.value (.int .i64 (wrap64 (0 - m)))) w := by
  simp [execOp, hF.ev hx, Op.unary, Op.intArith, i64_wrap]
end bools

theorem e_extract {vs : Array Value} {i : Nat} (hF : Fr n a fr) (hx : ev fr x = some (.tuple vs)) (hi : vs[i]? = some v) : (execOp a.eval ⟨d, .extract x i, ty, pos, aft, g⟩).run P w = .ok (.value v) w := by
  simp [execOp, hF.ev hx, Instr.extract, hi]

theorem e_len {E k : Nat} (hF : Fr n a fr) (hx : ev fr x = some v) (hs : SlF v k) (hu : P.underlying T = some (.slice E)) :
    (execOp a.eval ⟨d, .call ⟨.builtin .len, #[x], #[T]⟩, ty, pos, aft, g⟩).run P w = .ok (.value (.int .i64 (k : Int))) w := by
  obtain ⟨b, hv, _⟩ := hs.form
  have hx' := hF.ev hx
  simp only [execOp, resolve, List.map_toArray, List.map_cons, List.map_nil, hx', invoke, builtin]
  rw [hv]
  simp [Builtin.len_, run_underlying hu, goInt]

theorem e_fa {b o off j : Nat} {fs : Array Field} {f : Field} {s : Nat} (hF : Fr n a fr) (hx : ev fr x = some (pt b o)) (hu : P.underlying T = some (.struct fs)) (hf : fs[j]? = some f) (hs : ∀ w, (sizeOf f.type).run P w = .ok s w) (h0 : Nat.blt 0 s = true) (ho : f.offset = off) :
    (execOp a.eval ⟨d, .fieldAddr T x j, ty, pos, aft, g⟩).run P w = .ok (.value (pt b (o + off))) w := by
  have hs0 : s ≠ 0 := Nat.ne_of_gt (Nat.le_of_ble_eq_true h0)
  simp [execOp, hF.ev hx, Instr.fieldAt, run_underlying hu, hf, Instr.sureAddr, fieldPlace, hs, hs0, add_lit0, ho]

theorem e_ia {b o k E s : Nat} (hF : Fr n a fr) (hx : ev fr x = some (pt b o)) (hy : ev fr y = some (.int .i64 m)) (hu : P.underlying T = some (.array k E)) (hs : ∀ w, (sizeOf E).run P w = .ok s w) (h0 : 0 ≤ m) (h1 : m < k) :
    (execOp a.eval ⟨d, .indexAddr T x y, ty, pos, aft, g⟩).run P w = .ok (.value (pt b (o + m.toNat * s))) w := by
  simp [execOp, hF.ev hx, hF.ev hy, Instr.indexAt, run_underlying hu, asIntOf, Instr.sureAddr, h0, h1, hs, add_lit0]

theorem e_ias {α : Type} (C : Cd α) {k : Nat} (hF : Fr n a fr) (hx : ev fr x = some v) (hy : ev fr y = some (.int .i64 m)) (hl : SlF v k) (hu : P.underlying T = some (.slice C.T)) (hs : ∀ w, (sizeOf C.T).run P w = .ok C.s w) (h0 : 0 ≤ m) (h1 : m < k) :
    (execOp a.eval ⟨d, .indexAddr T x y, ty, pos, aft, g⟩).run P w = .ok (.value (pt (sblk v) (soff v + m.toNat * C.s))) w := by
  obtain ⟨b, hv, hb⟩ := hl.form
  have hb' := hb (by omega)
  have hx' := hF.ev hx
  generalize hbl : sblk v = bl at *
  generalize hof : soff v = of at *
  simp only [execOp, hx', hF.ev hy, Instr.indexAt]
  rw [hv, hb']
  simp [run_underlying hu, asIntOf, h0, h1, hs, add_lit0]

/-- A cell that holds no struct or array. -/
theorem e_ld0 {b o : Nat} (hF : Fr n a fr) (hx : ev fr x = some (pt b o)) (hs : ∀ w, (isAgg T).run P w = .ok false w) (hc : w.cell? ⟨b, o, none⟩ = some v) :
    (execOp a.eval ⟨d, .load T x, ty, pos, aft, g⟩).run P w = .ok (.value v) w := by
  simp [execOp, hF.ev hx, Instr.loadAt, Instr.sureAddr, loadVar, hs, hc]

theorem e_ld1 {b o s : Nat} (cs : List Value) (hF : Fr n a fr) (hx : ev fr x = some (pt b o)) (hs : ∀ w, (isAgg T).run P w = .ok true w) (hz : ∀ w, (sizeOf T).run P w = .ok s w) (hl : cs.length = s) (hc : ∀ j u, cs[j]? = some u → w.cell? ⟨b, o + j, none⟩ = some u) :
    (execOp a.eval ⟨d, .load T x, ty, pos, aft, g⟩).run P w = .ok (.value (.agg cs.toArray)) w := by
  have h := run_loadCells_list (P := P) w ⟨b, o, none⟩ cs (fun j u hu => by rw [add_lit0]; exact hc j u hu)
  rw [hl] at h
  simp [execOp, hF.ev hx, Instr.loadAt, Instr.sureAddr, loadVar, hs, hz, h]

/-- Part k of a box: a number, a bool, a pointer. -/
theorem e_ld {b o i k TB : Nat} {ps : List Pt} {q : Pt} (hF : Fr n a fr) (hM : Ms X w0 w mem) (hx : ev fr x = some (pt b o)) (hi : mem[i]? = some (boxR b ps TB)) (hk : ps[k]? = some q) (ho : offs (ps.take k) = o) (hs : ∀ w, (isAgg T).run P w = .ok false w) (hq : q.cs = [v]) :
    (execOp a.eval ⟨d, .load T x, ty, pos, aft, g⟩).run P w = .ok (.value v) w := by
  refine e_ld0 hF hx hs (hM.cell i hi o ?_)
  have hn : 0 < q.n := by rw [← q.h, hq]; exact Nat.one_pos
  have := cat_get ps k q 0 hk hn
  rw [ho, hq] at this
  exact this

/-- Element m of an array that is part k of a box. -/
theorem e_ldi {b o oo i k c TB : Nat} {ps : List Pt} {q : Ar c} (hF : Fr n a fr) (hM : Ms X w0 w mem) (hx : ev fr x = some (pt b (oo + m.toNat * 1))) (hi : mem[i]? = some (boxR b ps TB)) (hk : ps[k]? = some (Pt.ar q)) (ho : offs (ps.take k) = o) (hoo : o = oo) (hs : ∀ w, (isAgg T).run P w = .ok false w) (h0 : 0 ≤ m) (h1 : m < c) :
    (execOp a.eval ⟨d, .load T x, ty, pos, aft, g⟩).run P w = .ok (.value (.int .i64 (q.get m))) w := by
  refine e_ld0 hF hx hs (hM.cell i hi _ ?_)
  have hn : m.toNat < c := by omega
  have := cat_get ps k _ m.toNat hk hn
  rw [ho, hoo] at this
  rw [Nat.mul_one, this]
  have hl : m.toNat < q.l.length := by rw [q.h]; exact hn
  simp [Pt.ar, ints, Ar.get, List.getD_eq_getElem?_getD, List.getElem?_eq_getElem hl]

/-- A run of parts of a box: a struct's or an array's value. -/
theorem e_lda {b o i s TB : Nat} {ps qs : List Pt} (k c : Nat) (hF : Fr n a fr) (hM : Ms X w0 w mem) (hx : ev fr x = some (pt b o)) (hi : mem[i]? = some (boxR b ps TB)) (hq : (ps.drop k).take c = qs) (ho : offs (ps.take k) = o) (hs : ∀ w, (isAgg T).run P w = .ok true w) (hz : ∀ w, (sizeOf T).run P w = .ok s w) (hn : offs qs = s) :
    (execOp a.eval ⟨d, .load T x, ty, pos, aft, g⟩).run P w = .ok (.value (ag qs)) w := by
  refine e_ld1 (cat qs) hF hx hs hz (by rw [cat_length, hn]) (fun j u hu => hM.cell i hi _ ?_)
  have h := cat_take_drop ps k c
  rw [hq, ho] at h
  rw [← h, List.getElem?_take] at hu
  split at hu
  · rw [List.getElem?_drop] at hu; exact hu
  · cases hu

/-- An element of a slice: one cell. -/
theorem e_lds {α : Type} {C : Cd α} {xs : List α} {e : α} {q : Pt} (hF : Fr n a fr) (hx : ev fr x = some (pt (sblk v) (soff v + m.toNat * C.s))) (hl : SlR C w v xs) (he : xs[m.toNat]? = some e) (hp : C.ps e = [q]) {u : Value} (hq : q.cs = [u]) (hs : ∀ w, (isAgg T).run P w = .ok false w) :
    (execOp a.eval ⟨d, .load T x, ty, pos, aft, g⟩).run P w = .ok (.value u) w := by
  refine e_ld0 hF hx hs (hl.cell _ _ ?_)
  have h := C.cells_get xs m.toNat e 0 he C.pos
  rw [Nat.add_zero] at h
  rw [h, hp]
  simp [cat, hq]

/-- An element of a slice: a struct or an array. -/
theorem e_ldsa {α : Type} {C : Cd α} {xs : List α} {e : α} (hF : Fr n a fr) (hx : ev fr x = some (pt (sblk v) (soff v + m.toNat * C.s))) (hl : SlR C w v xs) (he : xs[m.toNat]? = some e) (hs : ∀ w, (isAgg T).run P w = .ok true w) (hz : ∀ w, (sizeOf T).run P w = .ok C.s w) :
    (execOp a.eval ⟨d, .load T x, ty, pos, aft, g⟩).run P w = .ok (.value (ag (C.ps e))) w := by
  refine e_ld1 (cat (C.ps e)) hF hx hs hz (by rw [cat_length, C.hs]) (fun j u hu => ?_)
  have hj : j < C.s := by have := (List.getElem?_eq_some_iff.1 hu).1; rwa [cat_length, C.hs] at this
  rw [Nat.add_assoc]
  exact hl.cell _ _ (by rw [C.cells_get xs m.toNat e j he hj]; exact hu)

/-- Part k of an element of a slice: one cell. -/
theorem e_ldsp {α : Type} {C : Cd α} {xs : List α} {e : α} {o k : Nat} {q : Pt} {u : Value} (hF : Fr n a fr) (hx : ev fr x = some (pt (sblk v) (soff v + m.toNat * C.s + o))) (hl : SlR C w v xs) (he : xs[m.toNat]? = some e) (hk : (C.ps e)[k]? = some q) (ho : offs ((C.ps e).take k) = o) (hq : q.cs = [u]) (hs : ∀ w, (isAgg T).run P w = .ok false w) :
    (execOp a.eval ⟨d, .load T x, ty, pos, aft, g⟩).run P w = .ok (.value u) w := by
  rw [Nat.add_assoc] at hx
  refine e_ld0 hF hx hs (hl.cell _ _ ?_)
  have hn : 0 < q.n := by rw [← q.h, hq]; exact Nat.one_pos
  have h2 := cat_get (C.ps e) k q 0 hk hn
  rw [ho, hq, Nat.add_zero] at h2
  have hlt : o < C.s := by
    have := (List.getElem?_eq_some_iff.1 h2).1
    rwa [cat_length, C.hs] at this
  rw [C.cells_get xs m.toNat e o he hlt]
  exact h2

/-- Element p of an array that is part k of an element of a slice. -/
theorem e_ldsi {α : Type} {C : Cd α} {xs : List α} {e : α} {o k c : Nat} {q : Ar c} (hF : Fr n a fr) (hx : ev fr x = some (pt (sblk v) (soff v + m.toNat * C.s + o + p.toNat * 1))) (hl : SlR C w v xs) (he : xs[m.toNat]? = some e) (hk : (C.ps e)[k]? = some (Pt.ar q)) (ho : offs ((C.ps e).take k) = o) (hs : ∀ w, (isAgg T).run P w = .ok false w) (h0 : 0 ≤ p) (h1 : p < c) :
    (execOp a.eval ⟨d, .load T x, ty, pos, aft, g⟩).run P w = .ok (.value (.int .i64 (q.get p))) w := by
  rw [Nat.add_assoc, Nat.add_assoc] at hx
  refine e_ld0 hF hx hs (hl.cell _ _ ?_)
  have hn : p.toNat < c := by omega
  have h2 := cat_get (C.ps e) k _ p.toNat hk hn
  rw [ho] at h2
  have hl2 : p.toNat < q.l.length := by rw [q.h]; exact hn
  have h3 : (Pt.ar q).cs[p.toNat]? = some (.int .i64 (q.get p)) := by
    simp [Pt.ar, ints, Ar.get, List.getD_eq_getElem?_getD, List.getElem?_eq_getElem hl2]
  rw [h3] at h2
  have hlt : o + p.toNat < C.s := by
    have := (List.getElem?_eq_some_iff.1 h2).1
    rwa [cat_length, C.hs] at this
  rw [Nat.mul_one, C.cells_get xs m.toNat e _ he hlt]
  exact h2

/-- An element of an array's value. -/
theorem e_ix {c E : Nat} {q : Ar c} (hF : Fr n a fr) (hx : ev fr x = some (ag [Pt.ar q])) (hy : ev fr y = some (.int .i64 m)) (hu : P.underlying T = some (.array c E)) (hsz : ∀ w, (sizeOf E).run P w = .ok 1 w) (hs : ∀ w, (isAgg E).run P w = .ok false w) (h0 : 0 ≤ m) (h1 : m < c) :
    (execOp a.eval ⟨d, .index T x y, ty, pos, aft, g⟩).run P w = .ok (.value (.int .i64 (q.get m))) w := by
  have hn : m.toNat < q.l.length := by rw [q.h]; omega
  have hc : (cat [Pt.ar q])[m.toNat]? = some (.int .i64 (q.get m)) := by
    simp [cat, Pt.ar, ints, Ar.get, List.getD_eq_getElem?_getD, List.getElem?_eq_getElem hn]
  simp [execOp, hF.ev hx, hF.ev hy, Instr.index, run_underlying hu, asIntOf, h0, h1, hsz, part, hs, hc]

/-- A field of a struct's value: an array or a struct. -/
theorem e_fda {o j s : Nat} {ps qs : List Pt} {fs : Array Field} {f : Field} (k c : Nat) (hF : Fr n a fr) (hx : ev fr x = some (ag ps)) (hu : P.underlying T = some (.struct fs)) (hf : fs[j]? = some f) (hq : (ps.drop k).take c = qs) (ho : offs (ps.take k) = o) (hfo : f.offset = o) (hs : ∀ w, (isAgg f.type).run P w = .ok true w) (hz : ∀ w, (sizeOf f.type).run P w = .ok s w) (hn : offs qs = s) :
    (execOp a.eval ⟨d, .field T x j, ty, pos, aft, g⟩).run P w = .ok (.value (ag qs)) w := by
  have h := cat_take_drop ps k c
  rw [hq, ho, hn] at h
  simp [execOp, hF.ev hx, Instr.field, run_underlying hu, hf, asAgg, part, hs, hz, hfo, h]

/-- A field of a struct's value: one cell. -/
theorem e_fd {o j k : Nat} {ps : List Pt} {q : Pt} {fs : Array Field} {f : Field} (hF : Fr n a fr) (hx : ev fr x = some (ag ps)) (hu : P.underlying T = some (.struct fs)) (hf : fs[j]? = some f) (hk : ps[k]? = some q) (ho : offs (ps.take k) = o) (hfo : f.offset = o) (hs : ∀ w, (isAgg f.type).run P w = .ok false w) (hq : q.cs = [v]) :
    (execOp a.eval ⟨d, .field T x j, ty, pos, aft, g⟩).run P w = .ok (.value v) w := by
  have hn : 0 < q.n := by rw [← q.h, hq]; exact Nat.one_pos
  have := cat_get ps k q 0 hk hn
  rw [ho, hq, Nat.add_zero] at this
  simp [execOp, hF.ev hx, Instr.field, run_underlying hu, hf, asAgg, part, hs, hfo, this]

theorem e_build {parts : Array (Nat × Operand)} {cells : List Value} {vs : List (Nat × Value)} (hv : (parts.map fun (i, x) => (i, a.eval x)).toList = vs) (hb : P.built T vs = some cells.toArray) :
    (execOp a.eval ⟨d, .build T parts, ty, pos, aft, g⟩).run P w = .ok (.value (.agg cells.toArray)) w := by
  subst hv
  simp [execOp, run_build w T _ _ hb]

theorem e_mkfunc {fn : Fn} {c1 : Array Operand} {vs : Array Value} (hv : c1.map a.eval = vs) : (execOp a.eval ⟨d, .makeFunc fn #[] c1, ty, pos, aft, g⟩).run P w = .ok (.value (.func fn #[] vs)) w := by
  subst hv
  simp [execOp, Instr.makeFunc]

theorem e_nilc (hF : Fr n a fr) {q : Addr} (hx : ev fr x = some (.pointer (some q))) : (execOp a.eval ⟨d, .nilCheck x, ty, pos, aft, g⟩).run P w = .ok (.value (.pointer (some q))) w := by
  simp [execOp, hF.ev hx]

/-- A call by name. -/
theorem e_call {f : FuncId} {xs : Array Operand} {ats : Array TypeId} {vs : Array Value} (hf : ∀ args w, (callFunc f args).run P w = .ok (.enter f args) w) (hv : xs.map a.eval = vs) :
    (execOp a.eval ⟨d, .call ⟨.value (.func f), xs, ats⟩, ty, pos, aft, g⟩).run P w = .ok (.enter f vs) w := by
  subst hv
  simp [execOp, resolve, Deferred.ofValue, invoke, Act.eval, hf]

/-- A call of a function value. -/
theorem e_callv {f : FuncId} {xs : Array Operand} {ats : Array TypeId} {vs cap : Array Value} (hF : Fr n a fr) (hx : ev fr x = some (.func (.func f) #[] cap)) (hf : ∀ args w, (callFunc f args).run P w = .ok (.enter f args) w) (hv : xs.map a.eval = vs) :
    (execOp a.eval ⟨d, .call ⟨.value x, xs, ats⟩, ty, pos, aft, g⟩).run P w = .ok (.enter f (vs ++ cap)) w := by
  subst hv
  simp [execOp, resolve, Deferred.ofValue, invoke, hF.ev hx, hf]
end evals
end Go.K
/- A small library for walks, fourth part: steps that turn the memory; calls; the end. -/
namespace Go.K
open Go.RowKit

def evs (fr : List (Nat × Value)) : List Operand → Option (List Value)
  | [] => some []
  | x :: r => match ev fr x with
    | some v => match evs fr r with
      | some vs => some (v :: vs)
      | none => none
    | none => none
theorem Fr.evs {n : Nat} {a : Act} {fr : List (Nat × Value)} (h : Fr n a fr) : ∀ {l : List Operand} {vs : List Value}, evs fr l = some vs → l.map a.eval = vs
  | [], vs, hv => by simp [K.evs] at hv; subst hv; rfl
  | x :: r, vs, hv => by
    simp only [K.evs] at hv
    cases hx : K.ev fr x with
    | none => simp [hx] at hv
    | some v =>
      cases hr : K.evs fr r with
      | none => simp [hx, hr] at hv
      | some us =>
        simp [hx, hr] at hv
        subst hv
        simp [h.ev hx, Fr.evs h hr]

def evp (fr : List (Nat × Value)) : List (Nat × Operand) → Option (List (Nat × Value))
  | [] => some []
  | x :: r => match ev fr x.2 with
    | some v => match evp fr r with
      | some vs => some ((x.1, v) :: vs)
      | none => none
    | none => none
theorem Fr.evp {n : Nat} {a : Act} {fr : List (Nat × Value)} (h : Fr n a fr) : ∀ {l : List (Nat × Operand)} {vs : List (Nat × Value)}, evp fr l = some vs → (l.map fun p => (p.1, a.eval p.2)) = vs
  | [], vs, hv => by simp [K.evp] at hv; subst hv; rfl
  | x :: r, vs, hv => by
    simp only [K.evp] at hv
    cases hx : K.ev fr x.2 with
    | none => simp [hx] at hv
    | some v =>
      cases hr : K.evp fr r with
      | none => simp [hx, hr] at hv
      | some us =>
        simp [hx, hr] at hv
        subst hv
        simp [h.ev hx, Fr.evp h hr]

/-- What the model knows of an element type. -/
structure CdOk {α : Type} (P : Program) (C : Cd α) : Prop where
  info : ∃ i, P.info? C.T = some i ∧ i.size = C.s ∧ i.bytes = C.b ∧ i.zero = some (C.v C.z)
  few : C.b ≤ 128

def Post (w : World) (R : World → Value → Prop) : Ending → World → Prop := fun e w' => ∃ v, e = .returned v ∧ Frm [] w w' ∧ R w' v

/-- A new slice. -/
def Fresh {α : Type} (C : Cd α) (B : Nat) (w : World) (v : Value) (xs : List α) : Prop := w.ownsRow B C.T C.s v xs.length (C.cells xs)

theorem ownsRow_mono {w : World} {B B' : Nat} {e : TypeId} {s : Nat} {v : Value} {n : Nat} {xs : List Value} (h : w.ownsRow B e s v n xs) (hb : B' ≤ B) : w.ownsRow B' e s v n xs :=
  ⟨h.1, h.2.imp id fun ⟨g, cap, cur, hv, hg, r⟩ => ⟨g, cap, cur, hv, Nat.le_trans hb hg, r⟩⟩

theorem Fresh.foot {α : Type} {C : Cd α} {B : Nat} {w : World} {v : Value} {xs : List α} (h : Fresh C B w v xs) : ∀ b ∈ v.ownBlock.toList, B ≤ b ∧ b < w.heap.size := by
  intro b hb
  have : v.ownBlock = some b := by simpa using hb
  exact World.ownsRow.lt h b this

theorem Ms.fresh {X : List Nat} {α : Type} {C : Cd α} {w0 w w' : World} {mem : List Res} {v : Value} {xs : List α} (hM : Ms X w0 w mem) (hf : Frm [] w w') (h : Fresh C w.heap.size w' v xs) : Ms X w0 w' (rowR C v xs :: mem) :=
  hM.add hf (rowR C v xs) (ownsRow_mono h (Nat.zero_le _)) (Fresh.foot h)

/-- What is handed back. -/
theorem Ms.give {α : Type} {C : Cd α} {w0 w : World} {mem : List Res} {v : Value} {xs : List α} (hM : Ms [] w0 w mem) (i : Nat) (hi : mem[i]? = some (rowR C v xs)) : Fresh C w0.heap.size w v xs := by
  obtain ⟨h1, h2⟩ : w.ownsRow 0 C.T C.s v xs.length (C.cells xs) := hM.get i hi
  refine ⟨h1, h2.imp id ?_⟩
  rintro ⟨g, cap, cur, rfl, hg, r⟩
  exact ⟨g, cap, cur, rfl, (hM.foots _ (List.mem_of_getElem? hi) g (by simp [rowR, Value.ownBlock])).1.resolve_left (by simp), r⟩

theorem Ms.nilRow {X : List Nat} {α : Type} (C : Cd α) {w0 w : World} {mem : List Res} (hM : Ms X w0 w mem) : Ms X w0 w (rowR C (.slice none 0 0) [] :: mem) :=
  hM.add (Frm.refl _ _) (rowR C (.slice none 0 0) []) ⟨by simp [Cd.cells], .inl ⟨rfl, rfl⟩⟩ (by simp [rowR, Value.ownBlock])

theorem Fresh.nil {α : Type} (C : Cd α) (B : Nat) (w : World) : Fresh C B w (.slice none 0 0) [] := ⟨by simp [Cd.cells], .inl ⟨rfl, rfl⟩⟩

/-- A row of a block is stored anew. -/
theorem frm_setRow (w : World) (g : Nat) (cs : Array Value) : Frm [g] w (w.setRow g cs) :=
  ⟨rfl, rfl, rfl, by simp, fun k _ hk => setRow_other w g k cs (by simpa using hk), Nat.le_refl _⟩

theorem run_storeCells_list {P : Program} (w : World) (g o T : Nat) (cs vs : List Value) (hg : w.heap[g]? = some (.cells cs.toArray T (0, 0))) (hl : o + vs.length ≤ cs.length) (h1 : ∀ u ∈ vs, u.oneCell' = true) :
    (storeCells ⟨g, o, none⟩ vs).run P w = .ok () (w.setRow g (cs.take o ++ vs ++ cs.drop (o + vs.length)).toArray) := by
  have := run_storeCells_at P g o T vs 0 cs.toArray w hg (by simpa using hl) h1
  simpa using this

theorem setRow_eq (w : World) (g T : Nat) (cs ds : List Value) (hg : w.heap[g]? = some (.cells cs.toArray T (0, 0))) : (w.setRow g ds.toArray).heap[g]? = some (.cells ds.toArray T (0, 0)) := setRow_heap w g _ _ T _ hg

theorem set_self {α : Type} (l : List α) (k : Nat) (x : α) (h : l[k]? = some x) : l.set k x = l := by
  obtain ⟨hl, rfl⟩ := List.getElem?_eq_some_iff.1 h
  exact List.set_getElem_self hl

theorem offs_take_le : ∀ (ps : List Pt) (k : Nat) (q : Pt), ps[k]? = some q → offs (ps.take k) + q.n ≤ offs ps
  | [], k, q, h => by simp at h
  | p :: r, 0, q, h => by simp at h; subst h; simp [offs]
  | p :: r, k + 1, q, h => by
    simp at h
    have := offs_take_le r k q h
    simp only [List.take_succ_cons, offs]
    omega

section steps
variable {X : List Nat} {P : Program} {ops : Array Oper} {Q : Exit → Act → World → Prop} {rest : List Oper} {a : Act} {w w0 : World} {n : Nat} {fr : List (Nat × Value)} {d : Nat} {ty : TypeId} {pos : String} {aft : Array Edge} {g : Option (Nat × Bool)} {x y z : Operand} {v : Value} {m p : Int} {T T' : TypeId} {mem : List Res}

theorem s_box {ps : List Pt} (hF : Fr n a fr) (hM : Ms X w0 w mem) (hw : want ops fr g = some true) (hd : Nat.blt d n = true) (hx : ev fr x = some v) (hv : v.cells = (cat ps).toArray)
    (k : ∀ a' w' b, Fr n a' ((d, pt b 0) :: fr) → Ms X w0 w' (boxR b ps T :: mem) → wpList P ops Q rest a' w') : wpList P ops Q (⟨some d, .box T x, ty, pos, aft, g⟩ :: rest) a w := by
  refine s_valw (w' := w.alloc (.cells (cat ps).toArray T)) (v := pt w.heap.size 0) (d := d) hF hw rfl hd ?_ fun a' hF' => k a' _ w.heap.size hF' ?_
  · simp [execOp, hF.ev hx, Instr.box, newVar, newRow, hv]
  · exact hM.add (Frm.alloc _ _ _) (boxR w.heap.size ps T) (heap_alloc_new w _) (by simp [boxR])

theorem s_alloc {ps : List Pt} (hF : Fr n a fr) (hM : Ms X w0 w mem) (hw : want ops fr g = some true) (hd : Nat.blt d n = true) (hz : ∀ w, (zeroValue T).run P w = .ok v w) (hv : v.cells = (cat ps).toArray)
    (k : ∀ a' w' b, Fr n a' ((d, pt b 0) :: fr) → Ms X w0 w' (boxR b ps T :: mem) → wpList P ops Q rest a' w') : wpList P ops Q (⟨some d, .alloc T, ty, pos, aft, g⟩ :: rest) a w := by
  refine s_valw (w' := w.alloc (.cells (cat ps).toArray T)) (v := pt w.heap.size 0) (d := d) hF hw rfl hd ?_ fun a' hF' => k a' _ w.heap.size hF' ?_
  · simp [execOp, Instr.alloc, hz, newVar, newRow, hv]
  · exact hM.add (Frm.alloc _ _ _) (boxR w.heap.size ps T) (heap_alloc_new w _) (by simp [boxR])

theorem box_store {b o i TB s : Nat} {ps ps' : List Pt} (vs : List Value) (hM : Ms X w0 w mem) (hi : mem[i]? = some (boxR b ps TB)) (hl : o + vs.length ≤ (cat ps).length) (h1 : ∀ u ∈ vs, u.oneCell' = true)
    (he : cat ps' = (cat ps).take o ++ vs ++ (cat ps).drop (o + vs.length)) (hF : Fr n a fr) (hy : ev fr y = some v) (hv : v.cells.toList = vs) (hx : ev fr x = some (pt b o)) (hs : ∀ w, (sizeOf T).run P w = .ok s w) (hn : vs.length = s) (d' : Option Tmp) :
    ∃ w', (execOp a.eval ⟨d', .store T x y, ty, pos, aft, g⟩).run P w = .ok .skip w' ∧ Ms X w0 w' (mem.set i (boxR b ps' TB)) := by
  have hb : w.heap[b]? = some (.cells (cat ps).toArray TB (0, 0)) := hM.get i hi
  have hr := run_storeCells_list (P := P) w b o TB (cat ps) vs hb hl h1
  refine ⟨_, ?_, hM.turn (R' := boxR b ps' TB) hi (frm_setRow w b _) (setRow_eq w b TB (cat ps) (cat ps') hb) (by simp [boxR])⟩
  have hc : v.cells.size = s := by rw [← hn, ← hv]; simp
  rw [he]
  simp [execOp, hF.ev hx, hF.ev hy, Instr.storeAt, Instr.sureAddr, storeVar, hs, hc, hv, hr]

/-- Part k of a box is stored. -/
theorem s_st {b o i k TB s : Nat} {ps : List Pt} {q : Pt} (q' : Pt) (hF : Fr n a fr) (hM : Ms X w0 w mem) (hw : want ops fr g = some true) (hx : ev fr x = some (pt b o)) (hy : ev fr y = some v) (hv : v.cells.toList = q'.cs) (hi : mem[i]? = some (boxR b ps TB)) (hk : ps[k]? = some q) (ho : offs (ps.take k) = o) (hn : q'.n = q.n) (hs : ∀ w, (sizeOf T).run P w = .ok s w) (hsn : q'.n = s)
    (kk : ∀ a' w', Fr n a' fr → Ms X w0 w' (mem.set i (boxR b (ps.set k q') TB)) → wpList P ops Q rest a' w') : wpList P ops Q (⟨none, .store T x y, ty, pos, aft, g⟩ :: rest) a w := by
  have he := cat_set ps k q q' hk hn
  rw [ho] at he
  have hlen : o + q'.cs.length ≤ (cat ps).length := by
    have := offs_take_le ps k q hk
    rw [q'.h, cat_length, hn, ← ho]
    exact this
  obtain ⟨w', hr, hM'⟩ := box_store (P := P) (ty := ty) (pos := pos) (aft := aft) (g := g) (d' := none) q'.cs hM hi hlen q'.one (by rw [q'.h]; exact he) hF hy hv hx hs (by rw [q'.h]; exact hsn)
  exact s_nov hF hw rfl hr fun a' hF' => kk a' w' hF' hM'

theorem ar_set_cells {c : Nat} (l : Ar c) (m : Int) (val : Int) (h0 : 0 ≤ m) (h1 : m < c) : (Pt.ar (l.set m val)).cs = (Pt.ar l).cs.take m.toNat ++ [.int .i64 val] ++ (Pt.ar l).cs.drop (m.toNat + 1) := by
  have hl : m.toNat < l.l.length := by rw [l.h]; omega
  simp only [Pt.ar, Ar.set, ints, List.map_set]
  rw [List.set_eq_take_append_cons_drop, if_pos (by simpa using hl)]
  simp

/-- Element m of an array that is part k of a box is stored. -/
theorem s_sti {b o oo i k c TB : Nat} {ps : List Pt} {q : Ar c} (hF : Fr n a fr) (hM : Ms X w0 w mem) (hw : want ops fr g = some true) (hx : ev fr x = some (pt b (oo + m.toNat * 1))) (hy : ev fr y = some (.int .i64 p)) (hi : mem[i]? = some (boxR b ps TB)) (hk : ps[k]? = some (Pt.ar q)) (ho : offs (ps.take k) = o) (hoo : o = oo) (hs : ∀ w, (sizeOf T).run P w = .ok 1 w) (h0 : 0 ≤ m) (h1 : m < c)
    (kk : ∀ a' w', Fr n a' fr → Ms X w0 w' (mem.set i (boxR b (ps.set k (Pt.ar (q.set m p))) TB)) → wpList P ops Q rest a' w') : wpList P ops Q (⟨none, .store T x y, ty, pos, aft, g⟩ :: rest) a w := by
  subst hoo
  have hmc : m.toNat < c := by omega
  have hlk : ps[k]? = some (Pt.ar q) := hk
  have hn : (Pt.ar (q.set m p)).n = (Pt.ar q).n := rfl
  have he := cat_set ps k _ _ hk hn
  have hk' : k < ps.length := (List.getElem?_eq_some_iff.1 hk).1
  have h3 : cat ps = (cat ps).take o ++ (Pt.ar q).cs ++ (cat ps).drop (o + c) := by
    have h := cat_set ps k _ _ hk (rfl : (Pt.ar q).n = (Pt.ar q).n)
    rw [set_self ps k _ hk, ho] at h
    exact h
  rw [ho, ar_set_cells q m p h0 h1] at he
  have hlen0 : ((cat ps).take o).length = o := by
    have := congrArg List.length h3
    rw [List.length_append, List.length_append, List.length_take, List.length_drop, (Pt.ar q).h] at this
    rw [List.length_take]
    simp only [Pt.ar] at this
    omega
  have hql : (Pt.ar q).cs.length = c := (Pt.ar q).h
  have hlen : o + m.toNat * 1 + 1 ≤ (cat ps).length := by
    have := congrArg List.length h3
    rw [List.length_append, List.length_append, hlen0, hql, List.length_drop] at this
    omega
  have he2 : cat (ps.set k (Pt.ar (q.set m p))) = (cat ps).take (o + m.toNat * 1) ++ [.int .i64 p] ++ (cat ps).drop (o + m.toNat * 1 + 1) := by
    have t1 : (cat ps).take (o + m.toNat * 1) = (cat ps).take o ++ (Pt.ar q).cs.take m.toNat := by
      conv => lhs; rw [h3]
      rw [Nat.mul_one, List.append_assoc, List.take_append, hlen0, List.take_of_length_le (by rw [hlen0]; omega), Nat.add_sub_cancel_left, List.take_append, hql]
      rw [show m.toNat - c = 0 by omega, List.take_zero, List.append_nil]
    have t2 : (cat ps).drop (o + m.toNat * 1 + 1) = (Pt.ar q).cs.drop (m.toNat + 1) ++ (cat ps).drop (o + c) := by
      conv => lhs; rw [h3]
      rw [Nat.mul_one, List.append_assoc, Nat.add_assoc, List.drop_append, hlen0, List.drop_of_length_le (by rw [hlen0]; omega), List.nil_append, Nat.add_sub_cancel_left, List.drop_append, hql]
      rw [show m.toNat + 1 - c = 0 by omega, List.drop_zero]
    rw [he, t1, t2]
    simp [Pt.ar]
  obtain ⟨w', hr, hM'⟩ := box_store (P := P) (ty := ty) (pos := pos) (aft := aft) (g := g) (d' := none) [.int .i64 p] hM hi (by simpa using hlen) (by simp [Value.oneCell']) (by simpa using he2) hF hy rfl hx hs rfl
  exact s_nov hF hw rfl hr fun a' hF' => kk a' w' hF' hM'

/-- A whole box is stored. -/
theorem s_stw {b i TB s : Nat} {ps ps' : List Pt} (hF : Fr n a fr) (hM : Ms X w0 w mem) (hw : want ops fr g = some true) (hx : ev fr x = some (pt b 0)) (hy : ev fr y = some v) (hv : v.cells = (cat ps').toArray) (hi : mem[i]? = some (boxR b ps TB)) (hn : offs ps' = offs ps) (hs : ∀ w, (sizeOf T).run P w = .ok s w) (hsn : offs ps' = s)
    (kk : ∀ a' w', Fr n a' fr → Ms X w0 w' (mem.set i (boxR b ps' TB)) → wpList P ops Q rest a' w') : wpList P ops Q (⟨none, .store T x y, ty, pos, aft, g⟩ :: rest) a w := by
  have hl : (cat ps').length = (cat ps).length := by rw [cat_length, cat_length, hn]
  obtain ⟨w', hr, hM'⟩ := box_store (P := P) (ty := ty) (pos := pos) (aft := aft) (g := g) (d' := none) (o := 0) (ps' := ps') (cat ps') hM hi (by omega) (cat_one ps') (by rw [Nat.zero_add, hl, List.drop_length]; simp) hF hy (by rw [hv]) hx hs (by rw [cat_length]; exact hsn)
  exact s_nov hF hw rfl hr fun a' hF' => kk a' w' hF' hM'

/-! rows -/
theorem row_store {α : Type} {C : Cd α} {xs xs' : List α} {i o s : Nat} (vs : List Value) (hM : Ms X w0 w mem) (hi : mem[i]? = some (rowR C v xs)) (hl : o + vs.length ≤ (C.cells xs).length) (h0 : 0 < vs.length) (h1 : ∀ u ∈ vs, u.oneCell' = true) (hxs : xs'.length = xs.length)
    (he : C.cells xs' = (C.cells xs).take o ++ vs ++ (C.cells xs).drop (o + vs.length)) (hF : Fr n a fr) {u : Value} (hy : ev fr y = some u) (hv : u.cells.toList = vs) (hx : ev fr x = some (pt (sblk v) (soff v + o))) (hs : ∀ w, (sizeOf T).run P w = .ok s w) (hn : vs.length = s) (d' : Option Tmp) :
    ∃ w', (execOp a.eval ⟨d', .store T x y, ty, pos, aft, g⟩).run P w = .ok .skip w' ∧ Ms X w0 w' (mem.set i (rowR C v xs')) := by
  obtain ⟨hlen, h⟩ : w.ownsRow 0 C.T C.s v xs.length (C.cells xs) := hM.get i hi
  rcases h with ⟨rfl, hn0⟩ | ⟨b, cap, cur, rfl, hb0, hg, hnc, hcm, hcs, htake⟩
  · rw [hn0] at hlen; omega
  · simp only [sblk, soff, Nat.zero_add] at hx
    have hcl : (C.cells xs).length ≤ cur.toList.length := by rw [← htake, List.length_take]; exact Nat.min_le_right _ _
    have hr := run_storeCells_list (P := P) w b o C.T cur.toList vs (by simpa using hg) (by omega) h1
    have htk : cur.toList.take (C.cells xs).length = C.cells xs := by rw [hlen]; exact htake
    have hnew : (cur.toList.take o ++ vs ++ cur.toList.drop (o + vs.length)).take (xs.length * C.s) = C.cells xs' := by
      rw [he, ← htk, ← hlen]
      generalize hL : (C.cells xs).length = L at *
      rw [List.take_append, List.take_append, List.take_take, List.length_take, List.length_append, List.length_take, List.drop_take]
      have e1 : min o cur.toList.length = o := by omega
      rw [e1, List.take_of_length_le (l := vs) (by omega), Nat.min_comm L o, show L - (o + vs.length) = L - (o + vs.length) from rfl]
      rw [List.take_take]
    refine ⟨_, ?_, hM.turn (R' := rowR C (.slice (some ⟨b, 0, none⟩) xs.length cap) xs') hi (frm_setRow w b (cur.toList.take o ++ vs ++ cur.toList.drop (o + vs.length)).toArray) ?_ (fun c hc => .inl hc)⟩
    · have hc : u.cells.size = s := by rw [← hn, ← hv]; simp
      simp [execOp, hF.ev hx, hF.ev hy, Instr.storeAt, Instr.sureAddr, storeVar, hs, hc, hv, hr]
    · refine ⟨by rw [C.cells_length], .inr ⟨b, cap, _, by rw [hxs], hb0, setRow_heap w b _ _ C.T _ hg, by rw [hxs]; exact hnc, hcm, ?_, by rw [hxs]; exact hnew⟩⟩
      rw [← hcs]
      simp only [List.size_toArray, List.length_append, List.length_take, List.length_drop, Array.length_toList]
      have : cur.toList.length = cur.size := by simp
      omega

/-- An element of a slice of one's own is stored. -/
theorem s_sts {α : Type} {C : Cd α} {xs : List α} {i : Nat} (e' : α) {u : Value} (hF : Fr n a fr) (hM : Ms X w0 w mem) (hw : want ops fr g = some true) (hx : ev fr x = some (pt (sblk v) (soff v + m.toNat * C.s))) (hy : ev fr y = some u) (hv : u = C.v e') (hi : mem[i]? = some (rowR C v xs)) (h0 : 0 ≤ m) (h1 : m < xs.length) (hs : ∀ w, (sizeOf T).run P w = .ok C.s w)
    (kk : ∀ a' w', Fr n a' fr → Ms X w0 w' (mem.set i (rowR C v (xs.set m.toNat e'))) → wpList P ops Q rest a' w') : wpList P ops Q (⟨none, .store T x y, ty, pos, aft, g⟩ :: rest) a w := by
  have hlt : m.toNat < xs.length := by omega
  have hl : (cat (C.ps e')).length = C.s := by rw [cat_length, C.hs]
  have hfit : m.toNat * C.s + C.s ≤ (C.cells xs).length := by rw [C.cells_length, ← Nat.succ_mul]; exact Nat.mul_le_mul_right _ hlt
  obtain ⟨w', hr, hM'⟩ := row_store (P := P) (ty := ty) (pos := pos) (aft := aft) (g := g) (d' := none) (xs' := xs.set m.toNat e') (cat (C.ps e')) hM hi (by rw [hl]; exact hfit) (by rw [hl]; exact C.pos) (cat_one _) (by simp)
    (by rw [hl]; exact C.cells_set xs _ e' hlt) hF hy (by rw [hv, C.hv]) hx hs hl
  exact s_nov hF hw rfl hr fun a' hF' => kk a' w' hF' hM'

/-- Cells of an element of a slice of one's own are stored. -/
theorem s_stsc {α : Type} {C : Cd α} {xs : List α} {e : α} {i o s : Nat} (e' : α) (vs : List Value) {u : Value} (hF : Fr n a fr) (hM : Ms X w0 w mem) (hw : want ops fr g = some true) (hx : ev fr x = some (pt (sblk v) (soff v + (m.toNat * C.s + o)))) (hy : ev fr y = some u) (hv : u.cells.toList = vs) (hi : mem[i]? = some (rowR C v xs)) (he : xs[m.toNat]? = some e) (h1 : ∀ u ∈ vs, u.oneCell' = true) (hpos : 0 < vs.length) (ho : o + vs.length ≤ C.s)
    (hc : cat (C.ps e') = (cat (C.ps e)).take o ++ vs ++ (cat (C.ps e)).drop (o + vs.length)) (hs : ∀ w, (sizeOf T).run P w = .ok s w) (hn : vs.length = s)
    (kk : ∀ a' w', Fr n a' fr → Ms X w0 w' (mem.set i (rowR C v (xs.set m.toNat e'))) → wpList P ops Q rest a' w') : wpList P ops Q (⟨none, .store T x y, ty, pos, aft, g⟩ :: rest) a w := by
  have hlt : m.toNat < xs.length := (List.getElem?_eq_some_iff.1 he).1
  have hfit : m.toNat * C.s + C.s ≤ (C.cells xs).length := by rw [C.cells_length, ← Nat.succ_mul]; exact Nat.mul_le_mul_right _ hlt
  have hcell : C.cells (xs.set m.toNat e') = (C.cells xs).take (m.toNat * C.s + o) ++ vs ++ (C.cells xs).drop (m.toNat * C.s + o + vs.length) := by
    rw [C.cells_set xs _ e' hlt, hc]
    have hself : xs.set m.toNat e = xs := set_self xs _ e he
    have h3 := C.cells_set xs m.toNat e hlt
    rw [hself] at h3
    have hl0 : ((C.cells xs).take (m.toNat * C.s)).length = m.toNat * C.s := by rw [List.length_take]; omega
    have hle : (cat (C.ps e)).length = C.s := by rw [cat_length, C.hs]
    generalize hA : (C.cells xs).take (m.toNat * C.s) = A at *
    generalize hZ : (C.cells xs).drop (m.toNat * C.s + C.s) = Z at *
    generalize hE : cat (C.ps e) = E at *
    rw [h3]
    have t1 : (A ++ E ++ Z).take (m.toNat * C.s + o) = A ++ E.take o := by
      rw [List.append_assoc, List.take_append, hl0, List.take_of_length_le (by omega), Nat.add_sub_cancel_left, List.take_append, hle, show o - C.s = 0 by omega, List.take_zero, List.append_nil]
    have t2 : (A ++ E ++ Z).drop (m.toNat * C.s + o + vs.length) = E.drop (o + vs.length) ++ Z := by
      rw [List.append_assoc, Nat.add_assoc, List.drop_append, hl0, List.drop_of_length_le (by omega), List.nil_append, Nat.add_sub_cancel_left, List.drop_append, hle, show o + vs.length - C.s = 0 by omega, List.drop_zero]
    rw [t1, t2]
    simp
  obtain ⟨w', hr, hM'⟩ := row_store (P := P) (ty := ty) (pos := pos) (aft := aft) (g := g) (d' := none) (xs' := xs.set m.toNat e') vs hM hi (by omega) hpos h1 (by simp) hcell hF hy hv hx hs hn
  exact s_nov hF hw rfl hr fun a' hF' => kk a' w' hF' hM'

/-- make([]T, m) -/
theorem s_make {α : Type} {C : Cd α} (hC : CdOk P C) (hF : Fr n a fr) (hM : Ms X w0 w mem) (hw : want ops fr g = some true) (hd : Nat.blt d n = true) (hx : ev fr x = some (.int .i64 m)) (hy : ev fr y = some (.int .i64 m)) (hu : P.underlying T = some (.slice C.T)) (h0 : 0 ≤ m) (h1 : m ≤ 1073741824)
    (k : ∀ a' w' v, Fr n a' ((d, v) :: fr) → Ms X w0 w' (rowR C v (List.replicate m.toNat C.z) :: mem) → wpList P ops Q rest a' w') : wpList P ops Q (⟨some d, .makeSlice T x y, ty, pos, aft, g⟩ :: rest) a w := by
  obtain ⟨i, hi, his, hib, hiz⟩ := hC.info
  have hfew := hC.few
  have hb : (i.bytes : Int) * m ≤ 281474976710656 := by
    have h2 : (i.bytes : Int) ≤ 128 := by omega
    have h3 := Int.mul_le_mul h2 h1 h0 (by omega)
    omega
  have hr := run_make (P := P) w T C.T i (C.v C.z) hu hi hiz .i64 .i64 m m h0 (Int.le_refl _) hb (by omega)
  refine s_valw (d := d) (w' := w.alloc (.cells (madeCells (C.v C.z).cells (m.toNat * i.size)) C.T)) (v := .slice (some ⟨w.heap.size, 0, none⟩) m.toNat m.toNat) hF hw rfl hd ?_ fun a' hF' => k a' _ _ hF' ?_
  · simp only [execOp, hF.ev hx, hF.ev hy, Sem.run_bind, hr, Result.andThen_ok]; rfl
  · refine hM.add (Frm.alloc _ _ _) (rowR C _ (List.replicate m.toNat C.z)) ?_ (by simp [rowR, Value.ownBlock])
    have hz : (C.v C.z).cells = (cat (C.ps C.z)).toArray := C.hv C.z
    have hzl : (cat (C.ps C.z)).length = C.s := by rw [cat_length, C.hs]
    refine ⟨by rw [C.cells_length], .inr ⟨w.heap.size, m.toNat, _, by simp, Nat.zero_le _, heap_alloc_new w _, by simp, by simp [maxLen]; omega, by rw [size_madeCells, his], ?_⟩⟩
    rw [his, hz, List.length_replicate]
    apply List.ext_getElem?
    intro j
    rw [List.getElem?_take]
    have hpos := C.pos
    by_cases hj : j < m.toNat * C.s
    · rw [if_pos hj]
      have hq : j / C.s < m.toNat := by rw [Nat.div_lt_iff_lt_mul hpos]; exact hj
      have hrm : j % C.s < C.s := Nat.mod_lt _ hpos
      have h2 := C.cells_get (List.replicate m.toNat C.z) (j / C.s) C.z (j % C.s) (by simp [hq]) hrm
      rw [Nat.mul_comm, Nat.div_add_mod] at h2
      rw [h2]
      simp [madeCells, hj, hzl, getElem!_def, List.getElem?_eq_getElem (show j % C.s < (cat (C.ps C.z)).length by omega)]
    · rw [if_neg hj, List.getElem?_eq_none (by rw [C.cells_length, List.length_replicate]; omega)]

/-! calls -/
theorem s_call {f : FuncId} {xs : List Operand} {ats : Array TypeId} {vs : List Value} {R : World → Value → Prop} (hF : Fr n a fr) (hw : want ops fr g = some true) (hd : Nat.blt d n = true) (hv : evs fr xs = some vs) (hf : ∀ args w, (callFunc f args).run P w = .ok (.enter f args) w)
    (hc : Calls P f vs.toArray w (Post w R)) (k : ∀ a' w' v, Fr n a' ((d, v) :: fr) → Frm [] w w' → R w' v → wpList P ops Q rest a' w') : wpList P ops Q (⟨some d, .call ⟨.value (.func f), xs.toArray, ats⟩, ty, pos, aft, g⟩ :: rest) a w := by
  refine s_enter (d := d) (R := fun w' v => Frm [] w w' ∧ R w' v) hF hw rfl hd (e_call hf (by rw [List.map_toArray, hF.evs hv])) (hc.mono ?_) fun a' w' v hF' hr => k a' w' v hF' hr.1 hr.2
  rintro e w' ⟨v, he, h1, h2⟩
  exact ⟨v, he, h1, h2⟩

/-- A call that turns blocks of X. -/
theorem s_callx {f : FuncId} {xs : List Operand} {ats : Array TypeId} {vs : List Value} {R : World → Value → Prop} (hF : Fr n a fr) (hw : want ops fr g = some true) (hd : Nat.blt d n = true) (hv : evs fr xs = some vs) (hf : ∀ args w, (callFunc f args).run P w = .ok (.enter f args) w)
    (hc : Calls P f vs.toArray w (fun e w' => ∃ v, e = .returned v ∧ R w' v)) (k : ∀ a' w' v, Fr n a' ((d, v) :: fr) → R w' v → wpList P ops Q rest a' w') : wpList P ops Q (⟨some d, .call ⟨.value (.func f), xs.toArray, ats⟩, ty, pos, aft, g⟩ :: rest) a w :=
  s_enter (d := d) (R := R) hF hw rfl hd (e_call hf (by rw [List.map_toArray, hF.evs hv])) hc k

/-- A call of a function value. -/
def CallsV (P : Program) (fv : Value) (args : List Value) (w : World) (R : Ending → World → Prop) : Prop :=
  ∃ f cap, fv = .func (.func f) #[] cap ∧ (∀ args w, (callFunc f args).run P w = .ok (.enter f args) w) ∧ Calls P f (args.toArray ++ cap) w R

theorem s_callv {fv : Value} {xs : List Operand} {ats : Array TypeId} {vs : List Value} {R : World → Value → Prop} (hF : Fr n a fr) (hw : want ops fr g = some true) (hd : Nat.blt d n = true) (hx : ev fr x = some fv) (hv : evs fr xs = some vs)
    (hc : CallsV P fv vs w (fun e w' => ∃ v, e = .returned v ∧ R w' v)) (k : ∀ a' w' v, Fr n a' ((d, v) :: fr) → R w' v → wpList P ops Q rest a' w') : wpList P ops Q (⟨some d, .call ⟨.value x, xs.toArray, ats⟩, ty, pos, aft, g⟩ :: rest) a w := by
  obtain ⟨f, cap, rfl, hf, hc⟩ := hc
  exact s_enter (d := d) (R := R) hF hw rfl hd (e_callv hF hx hf (by rw [List.map_toArray, hF.evs hv])) hc k
end steps

/-! ### the beginning and the end -/
def numbered : Nat → List Value → List (Nat × Value)
  | _, [] => []
  | i, v :: r => (i, v) :: numbered (i + 1) r

theorem numbered_look : ∀ (l : List Value) (i t : Nat) (v : Value), look t (numbered i l) = some v → ∃ j, t = i + j ∧ l[j]? = some v
  | [], i, t, v, h => by simp [numbered, look] at h
  | u :: r, i, t, v, h => by
    simp only [numbered, look] at h
    cases hb : Nat.beq i t with
    | true =>
      have := Nat.eq_of_beq_eq_true hb
      subst this
      simp only [hb, cond_true] at h
      exact ⟨0, rfl, by simpa using h⟩
    | false =>
      simp only [hb, cond_false] at h
      obtain ⟨j, hj, hv⟩ := numbered_look r (i + 1) t v h
      exact ⟨j + 1, by omega, by simpa using hv⟩

theorem s_start {P : Program} {f : FuncId} {fn : Func} {c : Code} {args : List Value} {w : World} {n : Nat} {R : Ending → World → Prop} (hf : P.funcs[f]? = some fn) (hb : fn.body = some c) (hn : fn.ntmps = n) (ha : Nat.ble args.length n = true)
    (h : ∀ a, Fr n a (numbered 0 args) → c.wp P (bodyPost P fn R) a w) : Calls P f args.toArray w R := by
  have ha' : args.length ≤ n := Nat.le_of_ble_eq_true ha
  refine calls_of_wp hf hb (h _ ⟨by simp [hn]; omega, rfl, fun t v hv => ?_⟩)
  obtain ⟨j, rfl, hj⟩ := numbered_look _ _ _ _ hv
  have hjl := (List.getElem?_eq_some_iff.1 hj).1
  simp only [Nat.zero_add]
  rw [Array.getElem?_append_left (by simpa using hjl)]
  simpa using hj

def RVs (P : Program) (fr : List (Nat × Value)) (w : World) : List ResultVar → List Value → Prop
  | [], [] => True
  | .tmp t :: r, v :: vs => look t fr = some v ∧ RVs P fr w r vs
  | .cell t T :: r, v :: vs => (∃ ad, look t fr = some (.pointer (some ad)) ∧ (loadVar T ad).run P w = .ok v w) ∧ RVs P fr w r vs
  | _, _ => False

def tupv : List Value → Value
  | [v] => v
  | vs => .tuple vs.toArray

def rvSem (a : Act) : ResultVar → Sem Value
  | .tmp t => pure (a.tmps.getD t undef)
  | .cell p t => do loadVar t (← asAddr (a.tmps.getD p undef))

theorem run_results {P : Program} {w : World} {n : Nat} {a : Act} {fr : List (Nat × Value)} (hF : Fr n a fr) : ∀ (l : List ResultVar) (vs : List Value), RVs P fr w l vs →
    (l.mapM (rvSem a)).run P w = .ok vs w
  | [], [], _ => rfl
  | [], _ :: _, h => h.elim
  | .tmp t :: r, [], h => h.elim
  | .cell t T :: r, [], h => h.elim
  | .tmp t :: r, v :: vs, h => by
    have ih := run_results hF r vs h.2
    have hv := hF.slots t v h.1
    simp [List.mapM_cons, rvSem, ih, hv]
  | .cell t T :: r, v :: vs, h => by
    obtain ⟨⟨ad, h1, h2⟩, h3⟩ := h
    have ih := run_results hF r vs h3
    have hv := hF.slots t _ h1
    have hg : a.tmps.getD t undef = .pointer (some ad) := by simp [hv]
    simp only [List.mapM_cons, rvSem, Sem.run_bind, hg, asAddr, Sem.run_pure, Result.andThen_ok, h2, ih]

theorem s_ret {P : Program} {w : World} {n : Nat} {a : Act} {fr : List (Nat × Value)} {fn : Func} {R : Ending → World → Prop} {l : List ResultVar} (vs : List Value) (hF : Fr n a fr) (hr : fn.results = l.toArray) (hv : RVs P fr w l vs) (h : R (.returned (tupv vs)) w) : bodyPost P fn R .ret a w := by
  refine ⟨hF.defers, tupv vs, ?_, h⟩
  have h1 := run_results (P := P) (w := w) hF l vs hv
  have h2 : results fn a.tmps = (do let us ← (l.toArray).mapM (rvSem a); pure (if h : us.size = 1 then us[0] else .tuple us)) := by
    unfold results
    rw [hr]
    rfl
  rw [h2, Array.mapM_eq_mapM_toList]
  simp only [Sem.run_bind, Sem.run_map, h1, Result.andThen_ok, Sem.run_pure]
  match vs with
  | [] => simp [tupv]
  | [v] => simp [tupv]
  | v :: u :: r => simp [tupv]

/-- A box's whole value, at the end. -/
theorem rv_box {X : List Nat} {P : Program} {w w0 : World} {mem : List Res} {b i T TB s : Nat} {ps : List Pt} (hM : Ms X w0 w mem) (hi : mem[i]? = some (boxR b ps TB)) (hs : ∀ w, (isAgg T).run P w = .ok true w) (hz : ∀ w, (sizeOf T).run P w = .ok s w) (hn : offs ps = s) : (loadVar T ⟨b, 0, none⟩).run P w = .ok (ag ps) w := by
  have h := run_loadCells_list (P := P) w ⟨b, 0, none⟩ (cat ps) (fun j u hu => by rw [add_lit0, Nat.zero_add]; exact hM.cell i hi j hu)
  rw [cat_length, hn] at h
  simp [loadVar, hs, hz, h]
theorem rv_cell {X : List Nat} {P : Program} {w w0 : World} {mem : List Res} {b i T TB : Nat} {ps : List Pt} {q : Pt} {v : Value} (hM : Ms X w0 w mem) (hi : mem[i]? = some (boxR b ps TB)) (hk : ps[0]? = some q) (hq : q.cs = [v]) (hs : ∀ w, (isAgg T).run P w = .ok false w) : (loadVar T ⟨b, 0, none⟩).run P w = .ok v w := by
  have hn : 0 < q.n := by rw [← q.h, hq]; exact Nat.one_pos
  have h2 := cat_get ps 0 q 0 hk hn
  rw [hq] at h2
  have h := hM.cell i hi _ h2
  simp [loadVar, hs]
  simp [offs] at h
  rw [h]
end Go.K
/- A small library for walks, fifth part: slices that are built and grow; statements whose order is open. -/
namespace Go.K
open Go.RowKit

def enumV : Nat → List Value → List (Nat × Value)
  | _, [] => []
  | i, v :: r => (i, v) :: enumV (i + 1) r

theorem foldl_set (off : Nat) : ∀ (vs : List Value) (j : Nat) (cs : Array Value), off + j + vs.length ≤ cs.size →
    ((vs.zipIdx j).foldl (fun cs (p : Value × Nat) => cs.setIfInBounds (off + p.2) p.1) cs).toList = cs.toList.take (off + j) ++ vs ++ cs.toList.drop (off + j + vs.length)
  | [], j, cs, _ => by simp
  | v :: r, j, cs, h => by
    simp only [List.zipIdx_cons, List.foldl_cons]
    rw [foldl_set off r (j + 1) _ (by simp only [Array.size_setIfInBounds, List.length_cons] at *; omega)]
    simp only [Array.toList_setIfInBounds, List.length_cons] at *
    have := list_seg_step cs.toList (off + j) v r (by rw [Array.length_toList]; omega)
    rw [show off + (j + 1) = off + j + 1 by omega]
    exact this

theorem fill_seq (s : Nat) : ∀ (vs : List Value) (k : Nat) (cs : Array Value), (∀ v ∈ vs, v.cells.size = s) → (k + vs.length) * s ≤ cs.size →
    Instr.fill (fun i => some (i * s, s)) cs (enumV k vs) = some (cs.toList.take (k * s) ++ vs.flatMap (·.cells.toList) ++ cs.toList.drop ((k + vs.length) * s)).toArray
  | [], k, cs, _, _ => by simp [enumV, Instr.fill]
  | v :: r, k, cs, hv, hl => by
    have h1 := hv v (by simp)
    have h2 : k * s + s ≤ cs.size := by
      refine Nat.le_trans ?_ hl
      rw [← Nat.succ_mul]
      exact Nat.mul_le_mul_right _ (by simp)
    simp only [enumV, Instr.fill, h1]
    rw [if_neg (by simp; omega)]
    have hf := foldl_set (k * s) v.cells.toList 0 cs (by simp [h1]; omega)
    have hz : v.cells.zipIdx.foldl (fun cs (x : Value × Nat) => match x with | (c, j) => cs.setIfInBounds (k * s + j) c) cs = (cs.toList.take (k * s) ++ v.cells.toList ++ cs.toList.drop (k * s + s)).toArray := by
      apply Array.ext'
      rw [← Array.foldl_toList]
      simp only [Nat.add_zero, Array.length_toList, h1] at hf
      rw [← hf]
      simp
    rw [hz]
    have hsz : ((cs.toList.take (k * s) ++ v.cells.toList ++ cs.toList.drop (k * s + s)).toArray).size = cs.size := by
      simp only [List.size_toArray, List.length_append, List.length_take, List.length_drop, Array.length_toList, h1]
      omega
    rw [fill_seq s r (k + 1) _ (fun u hu => hv u (List.mem_cons_of_mem _ hu)) (by rw [hsz]; simpa [Nat.add_assoc, Nat.add_comm 1] using hl)]
    congr 2
    have hl0 : (cs.toList.take (k * s)).length = k * s := by rw [List.length_take, Array.length_toList]; omega
    have hl1 : v.cells.toList.length = s := by rw [Array.length_toList, h1]
    simp only [List.flatMap_cons, List.length_cons]
    have t1 : (cs.toList.take (k * s) ++ v.cells.toList ++ cs.toList.drop (k * s + s)).take ((k + 1) * s) = cs.toList.take (k * s) ++ v.cells.toList := by
      rw [Nat.succ_mul, List.take_append, List.length_append, hl0, hl1, Nat.sub_self, List.take_zero, List.append_nil, List.take_of_length_le (by rw [List.length_append, hl0, hl1]; exact Nat.le_refl _)]
    have t2 : (cs.toList.take (k * s) ++ v.cells.toList ++ cs.toList.drop (k * s + s)).drop ((k + 1 + r.length) * s) = cs.toList.drop ((k + (r.length + 1)) * s) := by
      rw [List.drop_append, List.length_append, hl0, hl1, List.drop_of_length_le (by rw [List.length_append, hl0, hl1, ← Nat.succ_mul]; exact Nat.mul_le_mul_right _ (by omega)), List.nil_append, List.drop_drop]
      congr 1
      rw [show k + (r.length + 1) = k + 1 + r.length by omega, ← Nat.succ_mul]
      have : (k + 1) * s ≤ (k + 1 + r.length) * s := Nat.mul_le_mul_right _ (by omega)
      simp only [Nat.succ_eq_add_one]
      omega
    rw [t1, t2]
    simp

theorem Cd.flat {α : Type} (C : Cd α) (xs : List α) : (xs.map C.v).flatMap (·.cells.toList) = C.cells xs := by
  induction xs with
  | nil => rfl
  | cons x xs ih => simp only [List.map_cons, List.flatMap_cons, Cd.cells_cons, ih, C.hv]

section steps
variable {X : List Nat} {P : Program} {ops : Array Oper} {Q : Exit → Act → World → Prop} {rest : List Oper} {a : Act} {w w0 : World} {n : Nat} {fr : List (Nat × Value)} {d : Nat} {ty : TypeId} {pos : String} {aft : Array Edge} {g : Option (Nat × Bool)} {x y z : Operand} {v : Value} {m p : Int} {T T' : TypeId} {mem : List Res}

/-- A slice that is written out. -/
theorem s_bsl {α : Type} {C : Cd α} {l : List (Nat × Operand)} (xs : List α) {len : Nat} (hC : CdOk P C) (hF : Fr n a fr) (hM : Ms X w0 w mem) (hw : want ops fr g = some true) (hd : Nat.blt d n = true) (hv : evp fr l = some (enumV 0 (xs.map C.v))) (hlen : len = xs.length) (hu : P.underlying T = some (.slice C.T)) (hfew : Nat.ble (len * C.s) 16777216 = true)
    (k : ∀ a' w' v, Fr n a' ((d, v) :: fr) → Ms X w0 w' (rowR C v xs :: mem) → wpList P ops Q rest a' w') : wpList P ops Q (⟨some d, .buildSlice T len l.toArray, ty, pos, aft, g⟩ :: rest) a w := by
  obtain ⟨i, hi, his, hib, hiz⟩ := hC.info
  have hf' : len * C.s ≤ 16777216 := Nat.le_of_ble_eq_true hfew
  have hcs : ∀ u ∈ xs.map C.v, u.cells.size = C.s := by
    intro u hu'
    obtain ⟨e, _, rfl⟩ := List.mem_map.1 hu'
    rw [C.hv]
    simp [cat_length, C.hs]
  have hfill : ∀ Z : Array Value, Z.size = len * C.s → Instr.fill (fun i => some (i * C.s, C.s)) Z (enumV 0 (xs.map C.v)) = some (C.cells xs).toArray := by
    intro Z hZ
    rw [fill_seq C.s _ 0 Z hcs (by simp [hZ, hlen])]
    simp only [Nat.zero_mul, List.take_zero, List.nil_append, Nat.zero_add, List.length_map, C.flat]
    rw [List.drop_of_length_le (by simp [hZ, hlen]), List.append_nil]
  have hsz : (sizeOf C.T).run P w = .ok C.s w := by simp [sizeOf, typeInfo, hi, his]
  have hev := hF.evp hv
  have hrun : (Instr.buildSlice T len (l.toArray.map fun (i, x) => (i, a.eval x))).run P w = .ok (.slice (some ⟨w.heap.size, 0, none⟩) len len) (w.alloc (.cells (C.cells xs).toArray C.T)) := by
    have hparts : (l.toArray.map fun (q : Nat × Operand) => (q.1, a.eval q.2)).toList = enumV 0 (xs.map C.v) := by simpa using hev
    by_cases h0 : len * C.s = 0
    · simp only [Instr.buildSlice, Sem.run_bind, run_underlying hu, Result.andThen_ok, hsz]
      rw [if_neg (by omega)]
      simp only [Sem.run_pure, Result.andThen_ok, h0, if_true, Sem.run_bind]
      rw [hparts]
      rw [hfill _ (by simp [h0])]
      simp [newRow]
    · have hz : (zeroValue C.T).run P w = .ok (C.v C.z) w := by simp [zeroValue, typeInfo, hi, hiz]
      simp only [Instr.buildSlice, Sem.run_bind, run_underlying hu, Result.andThen_ok, hsz]
      rw [if_neg (by omega)]
      rw [if_neg h0]
      simp only [Sem.run_bind, hz, Result.andThen_ok, Sem.run_pure]
      rw [hparts]
      rw [hfill _ (by simp)]
      simp [newRow]
  refine s_valw (d := d) (w' := w.alloc (.cells (C.cells xs).toArray C.T)) (v := .slice (some ⟨w.heap.size, 0, none⟩) len len) hF hw rfl hd ?_ fun a' hF' => k a' _ _ hF' ?_
  · simp only [execOp, Sem.run_bind, hrun, Result.andThen_ok]; rfl
  · refine hM.add (Frm.alloc _ _ _) (rowR C _ xs) ?_ (by simp [rowR, Value.ownBlock])
    have hpos := C.pos
    have hle : len ≤ len * C.s := Nat.le_mul_of_pos_right _ hpos
    refine ⟨by rw [C.cells_length], .inr ⟨w.heap.size, len, _, by rw [hlen], Nat.zero_le _, heap_alloc_new w _, by omega, by simp only [maxLen]; omega, by simp [C.cells_length, hlen], ?_⟩⟩
    rw [← C.cells_length]
    exact List.take_length

theorem run_append {α : Type} {C : Cd α} {xs ys : List α} {u : Value} (hC : CdOk P C) (hown : (rowR C v xs).holds w) (hys : SlR C w u ys) (hu : P.underlying T = some (.slice C.T)) (hfew : xs.length + ys.length ≤ 1073741824) :
    ∃ v' w', (Builtin.append_ #[T, T] ty #[v, u]).run P w = .ok v' w' ∧ Frm v.ownBlock.toList w w' ∧ (rowR C v' (xs ++ ys)).holds w' ∧ ∀ b ∈ v'.ownBlock.toList, b ∈ v.ownBlock.toList ∨ (w.heap.size ≤ b ∧ b < w'.heap.size) := by
  obtain ⟨i, hi, his, hib, hiz⟩ := hC.info
  have hsmall := hC.few
  obtain ⟨ua, hu1, hu2⟩ := hys.form
  have hcell := hys.cell
  obtain ⟨hlen, hown⟩ := hown
  have hb128 : ∀ k, k ≤ 1073741824 → k * i.bytes ≤ 140737488355328 := fun k hk => by
    have := Nat.mul_le_mul hk (show i.bytes ≤ 128 by omega)
    omega
  by_cases hy0 : ys = []
  · subst hy0
    simp only [List.append_nil]
    refine ⟨v, w, ?_, Frm.refl _ _, ⟨hlen, hown⟩, fun b hb => .inl hb⟩
    have hfc : (Builtin.firstCells i.size 0 u).run P w = .ok #[] w := by
      rw [hu1]
      cases ua <;> simp [Builtin.firstCells, loadCells, loadCellsFrom]
    have hl : (Builtin.lenOf u).run P w = .ok 0 w := by rw [hu1]; simp [Builtin.lenOf]
    rcases hown with ⟨rfl, hn⟩ | ⟨g, cap, cur, rfl, _, hg, hnc, hcm, hcs, htake⟩
    · simp [Builtin.append_, run_underlying hu, sizeOf, typeInfo, hi, hl, hfc]
    · simp [Builtin.append_, run_underlying hu, sizeOf, typeInfo, hi, hl, hfc, hnc, storeCells]
  · have hua := hu2 hy0
    have hypos : 0 < ys.length := List.length_pos_iff.2 hy0
    have hnews : ∀ j x, (C.cells ys)[j]? = some x → w.cell? ((⟨sblk u, soff u, none⟩ : Addr).add j) = some x := fun j x hx => by rw [add_lit0]; exact hcell j x hx
    have hnl : (C.cells ys).length = ys.length * i.size := by rw [C.cells_length, his]
    have hcat : (C.cells (xs ++ ys)).length = (xs ++ ys).length * C.s := C.cells_length _
    have grown : ∀ (ob : Option Addr) (old : Nat), old < xs.length + ys.length → v = .slice ob xs.length old →
        (∃ g, ob = some ⟨g, 0, none⟩ ∧ ∀ j x, (C.cells xs)[j]? = some x → w.cell? ((⟨g, 0, none⟩ : Addr).add j) = some x) →
        ∃ v' w', (Builtin.append_ #[T, T] ty #[v, u]).run P w = .ok v' w' ∧ Frm v.ownBlock.toList w w' ∧ (rowR C v' (xs ++ ys)).holds w' ∧ ∀ b ∈ v'.ownBlock.toList, b ∈ v.ownBlock.toList ∨ (w.heap.size ≤ b ∧ b < w'.heap.size) := by
      rintro ob old ho rfl ⟨g, rfl, holds⟩
      have hr := run_append_grow (P := P) w T ty C.T i (C.v C.z) hu hi hiz ⟨g, 0, none⟩ xs.length old (C.cells xs) (by rw [C.cells_length, his]) holds ⟨sblk u, soff u, none⟩ ys.length (scap u) (C.cells ys) hnl hnews ho (by omega) (growslice_fits ho (hb128 _ hfew))
      have hge := grownCap_ge w (xs.length + ys.length) old C.T
      have hcm := grownCap_le_maxLen w (xs.length + ys.length) old C.T (by simp only [maxLen]; omega)
      rw [← hua, ← hu1] at hr
      refine ⟨_, _, hr, (Frm.drew _ w).trans (Frm.alloc _ _ _), ⟨hcat, .inr ⟨w.heap.size, _, _, by rw [List.length_append], Nat.zero_le _, heap_alloc_new w.drew _, by rw [List.length_append]; exact hge, hcm, ?_, ?_⟩⟩, fun b hb => .inr ?_⟩
      · have hz : (C.v C.z).cells.size = C.s := by rw [C.hv]; simp [cat_length, C.hs]
        simp only [Array.size_append, List.size_toArray, size_zeroCells, hz, C.cells_length, ← Nat.add_mul]
        congr 1
        omega
      · rw [← hcat, C.cells_append]
        simp only [Array.toList_append, List.append_assoc]
        rw [← List.append_assoc]
        exact List.take_left
      · simp [Value.ownBlock] at hb
        subst hb
        simp
    rcases hown with ⟨rfl, hn⟩ | ⟨g, cap, cur, rfl, _, hg, hnc, hcm, hcs, htake⟩
    · have hx0 : xs = [] := List.eq_nil_of_length_eq_zero hn
      subst hx0
      have hr := run_append_nil (P := P) w T ty C.T i (C.v C.z) hu hi hiz ⟨sblk u, soff u, none⟩ ys.length (scap u) (C.cells ys) hnl hnews hypos (by simp at hfew; omega) (by have := hb128 _ (by simpa using hfew); omega)
      have hge := grownCap_ge w ys.length 0 C.T
      have hcm := grownCap_le_maxLen w ys.length 0 C.T (by simp only [maxLen]; simp at hfew; omega)
      rw [← hua, ← hu1] at hr
      refine ⟨_, _, hr, (Frm.drew _ w).trans (Frm.alloc _ _ _), ⟨hcat, .inr ⟨w.heap.size, _, _, by simp, Nat.zero_le _, heap_alloc_new w.drew _, by simpa using hge, hcm, ?_, ?_⟩⟩, fun b hb => .inr ?_⟩
      · have hz : (C.v C.z).cells.size = C.s := by rw [C.hv]; simp [cat_length, C.hs]
        simp only [Array.size_append, List.size_toArray, size_zeroCells, hz, C.cells_length, ← Nat.add_mul]
        congr 1
        omega
      · rw [← hcat]
        simp only [List.nil_append, Array.toList_append]
        exact List.take_left
      · simp [Value.ownBlock] at hb
        subst hb
        simp
    · by_cases hroom : xs.length + ys.length ≤ cap
      · have hfit : xs.length * i.size + (C.cells ys).length ≤ cur.size := by rw [hnl, hcs, ← Nat.add_mul, his]; exact Nat.mul_le_mul_right _ hroom
        have hr := run_append_room (P := P) w T ty C.T i hu hi g xs.length cap cur hg ⟨sblk u, soff u, none⟩ ys.length (scap u) (C.cells ys) hnl hnews (C.cells_one ys) hroom hfit
        rw [← hua, ← hu1] at hr
        refine ⟨_, _, hr, frm_setRow w g _, ⟨hcat, .inr ⟨g, cap, _, by rw [List.length_append], Nat.zero_le _, setRow_heap w g cur _ C.T _ hg, by rw [List.length_append]; exact hroom, hcm, ?_, ?_⟩⟩, fun b hb => .inl hb⟩
        · simp only [List.size_toArray, List.length_append, List.length_take, List.length_drop, Array.length_toList]
          omega
        · rw [his, htake, ← hcat, C.cells_append]
          exact List.take_left
      · refine grown _ cap (by omega) rfl ⟨g, rfl, fun j x hx => ?_⟩
        have hadd : (⟨g, 0, none⟩ : Addr).add j = ⟨g, j, none⟩ := by rw [add_lit0, Nat.zero_add]
        rw [hadd, cell_of_row w g j cur C.T (0, 0) hg]
        rw [← htake, List.getElem?_take] at hx
        split at hx
        · simpa using hx
        · cases hx

/-- append(s, x...) on a slice of one's own. -/
theorem s_append {α : Type} {C : Cd α} {xs ys : List α} {u : Value} {i : Nat} (hC : CdOk P C) (hF : Fr n a fr) (hM : Ms X w0 w mem) (hw : want ops fr g = some true) (hd : Nat.blt d n = true) (hx : ev fr x = some v) (hy : ev fr y = some u) (hi : mem[i]? = some (rowR C v xs)) (hys : SlR C w u ys) (hu : P.underlying T = some (.slice C.T)) (hfew : xs.length + ys.length ≤ 1073741824)
    (k : ∀ a' w' v', Fr n a' ((d, v') :: fr) → Ms X w0 w' (mem.set i (rowR C v' (xs ++ ys))) → wpList P ops Q rest a' w') : wpList P ops Q (⟨some d, .call ⟨.builtin .append, #[x, y], #[T, T]⟩, ty, pos, aft, g⟩ :: rest) a w := by
  obtain ⟨v', w', hr, h1, h2, h3⟩ := run_append (P := P) (ty := ty) hC (hM.get i hi) hys hu hfew
  refine s_valw (d := d) (w' := w') (v := v') hF hw rfl hd ?_ fun a' hF' => k a' w' v' hF' (hM.turn hi h1 h2 h3)
  simp only [execOp, resolve, invoke, builtin, Sem.run_bind, Sem.run_pure, Result.andThen_ok, List.map_toArray, List.map_cons, List.map_nil, hF.ev hx, hF.ev hy, hr]
end steps

/-! ### statements whose order is open -/
section draws
variable {X : List Nat} {P : Program} {ops : Array Oper} {Q : Exit → Act → World → Prop} {rest : List Oper} {a : Act} {w w0 : World} {o : Oper} {n : Nat} {fr : List (Nat × Value)} {d : Nat} {v : Value} {mem : List Res} {C : World → Prop} {QA : Act → Prop}

def Qw (X : List Nat) (w0 w : World) (mem : List Res) (w' : World) : Prop := Frm [] w w' ∧ Ms X w0 w' mem

theorem s_quiet {id : Nat} {l : List Oper} (hm : P.follows .mixedOrders = true) (hB : Region.lexB .any l.toArray = true) (hM : Ms X w0 w mem)
    (h : wpQuiet P l.toArray (Qw X w0 w mem) (fun a' => ∀ w', Qw X w0 w mem w' → Q .normal a' w') l a) : (Code.region id l.toArray true).wp P Q a w :=
  wp_region_quiet (C := Qw X w0 w mem) hm hB ⟨Frm.drew _ w, hM.grow (Frm.drew _ w)⟩ (by simpa using h)

theorem q_val (hF : Fr n a fr) (hw : want ops fr o.guard = some true) (hdst : o.dst = some d) (hd : Nat.blt d n = true)
    (hr : ∀ w, C w → (execOp a.eval o).run P w = .ok (.value v) w) (k : ∀ a', Fr n a' ((d, v) :: fr) → wpQuiet P ops C QA rest a') : wpQuiet P ops C QA (o :: rest) a := by
  unfold wpQuiet
  rw [if_pos (hF.want hw)]
  refine ⟨v, fun w hC => ?_, ?_⟩
  · unfold Oper.quietAt
    rw [hr w hC]
    exact ⟨rfl, rfl⟩
  · rw [hdst]
    exact k _ (hF.put v hd)

theorem q_skip (hF : Fr n a fr) (hw : want ops fr o.guard = some false) (hdst : o.dst = some d) (hd : Nat.blt d n = true)
    (k : ∀ a', Fr n a' ((d, undef) :: fr) → wpQuiet P ops C QA rest a') : wpQuiet P ops C QA (o :: rest) a := by
  unfold wpQuiet
  rw [if_neg (by rw [hF.want hw]; exact Bool.false_ne_true), hdst]
  exact k _ (hF.put undef hd)

theorem q_nil (h : QA a) : wpQuiet P ops C QA [] a := h

theorem q_call {f : FuncId} {args : Array Value} (hF : Fr n a fr) (hw : want ops fr o.guard = some true) (hdst : o.dst = some d) (hd : Nat.blt d n = true)
    (hr : ∀ w, C w → (execOp a.eval o).run P w = .ok (.enter f args) w) (hc : ∀ w, C w → Calls P f args w fun e w' => e = .returned v ∧ C w') (k : ∀ a', Fr n a' ((d, v) :: fr) → wpQuiet P ops C QA rest a') : wpQuiet P ops C QA (o :: rest) a := by
  unfold wpQuiet
  rw [if_pos (hF.want hw)]
  refine ⟨v, fun w hC => ?_, ?_⟩
  · unfold Oper.quietAt
    rw [hr w hC]
    exact ⟨rfl, hc w hC⟩
  · rw [hdst]
    exact k _ (hF.put v hd)

theorem Post.quiet {w1 w : World} {v : Value} {f : FuncId} {args : Array Value} (hw : Qw X w0 w1 mem w) (h : Calls P f args w (Post w fun _ u => u = v)) : Calls P f args w fun e w' => e = .returned v ∧ Qw X w0 w1 mem w' :=
  h.mono fun e w' ⟨u, he, hf, hu⟩ => ⟨by rw [he, hu], hw.1.trans hf, hw.2.grow hf⟩

/-- The first c operations read only; the others come in their order. -/
theorem s_tail {id : Nat} {l : List Oper} (c : Nat) (hm : P.follows .mixedOrders = true) (hB : Region.lexTailB .any l.toArray c = true) (hM : Ms X w0 w mem)
    (h : ∀ w', Frm [] w w' → Ms X w0 w' mem → wpStill P l.toArray w' (fun a' => wpList P l.toArray Q (l.drop c) a' w') (l.take c) a) : (Code.region id l.toArray true).wp P Q a w :=
  wp_region_still_tail c hm hB (h w.drew (Frm.drew _ w) (hM.grow (Frm.drew _ w)))

theorem t_val (hF : Fr n a fr) (hw : want ops fr o.guard = some true) (hdst : o.dst = some d) (hd : Nat.blt d n = true)
    (hr : (execOp a.eval o).run P w = .ok (.value v) w) (k : ∀ a', Fr n a' ((d, v) :: fr) → wpStill P ops w QA rest a') : wpStill P ops w QA (o :: rest) a := by
  unfold wpStill
  rw [if_pos (hF.want hw)]
  unfold Oper.still
  rw [hr, Oper.stillUpon_value, hdst]
  exact k _ (hF.put v hd)
theorem t_skip (hF : Fr n a fr) (hw : want ops fr o.guard = some false) (hdst : o.dst = some d) (hd : Nat.blt d n = true)
    (k : ∀ a', Fr n a' ((d, undef) :: fr) → wpStill P ops w QA rest a') : wpStill P ops w QA (o :: rest) a := by
  unfold wpStill
  rw [if_neg (by rw [hF.want hw]; exact Bool.false_ne_true), hdst]
  exact k _ (hF.put undef hd)
theorem t_nil (h : QA a) : wpStill P ops w QA [] a := h

/-! whichever may come -/
variable {S : World → Prop} {fuel : Nat} {l l' : Array Bool}

theorem s_held {id c : Nat} (S : World → Prop) (l0 : Array Bool) (hm : P.follows .mixedOrders = true) (hn : ops.size = c) (hl : Array.replicate c false = l0) (hM : Ms X w0 w mem)
    (h : ∀ w', Frm [] w w' → Ms X w0 w' mem → wpAnyH P .any ops (NoPanic Q) S c l0 a w') : (Code.region id ops true).wp P Q a w := by
  subst hn
  subst hl
  exact wp_region_noPanic (wp_region_held hm (h w.drew (Frm.drew _ w) (hM.grow (Frm.drew _ w))))

def takeOk (ops : Array Oper) (l l' : Array Bool) (i : Nat) : Bool :=
  Region.noSelect ops && Region.free .any ops l i && (Region.ready .any ops l).contains i && (l.setIfInBounds i true == l')

def oneOk (ops : Array Oper) (l l' : Array Bool) (i : Nat) : Bool :=
  (Region.ready .any ops l == [i]) && (l.setIfInBounds i true == l')

theorem h_val (i : Nat) (l' : Array Bool) (hi : ops[i]? = some o) (hc : takeOk ops l l' i = true) (hF : Fr n a fr) (hw : want ops fr o.guard = some true) (hdst : o.dst = some d) (hd : Nat.blt d n = true)
    (hr : ∀ w, S w → (execOp a.eval o).run P w = .ok (.value v) w) (hS : S w) (k : ∀ a', Fr n a' ((d, v) :: fr) → wpAnyH P .any ops (NoPanic Q) S fuel l' a' w) : wpAnyH P .any ops (NoPanic Q) S (fuel + 1) l a w := by
  simp only [takeOk, Bool.and_eq_true, beq_iff_eq] at hc
  obtain ⟨⟨⟨h1, h2⟩, h3⟩, h4⟩ := hc
  subst h4
  refine wpAnyH_take hi h1 h2 h3 (fun _ _ _ h => h) (.inl ⟨hF.want hw, hr⟩) hS ?_
  rw [hdst]
  exact k _ (hF.put v hd)

theorem h_skip (i : Nat) (l' : Array Bool) (hi : ops[i]? = some o) (hc : takeOk ops l l' i = true) (hF : Fr n a fr) (hw : want ops fr o.guard = some false) (hdst : o.dst = some d) (hd : Nat.blt d n = true)
    (hS : S w) (k : ∀ a', Fr n a' ((d, undef) :: fr) → wpAnyH P .any ops (NoPanic Q) S fuel l' a' w) : wpAnyH P .any ops (NoPanic Q) S (fuel + 1) l a w := by
  simp only [takeOk, Bool.and_eq_true, beq_iff_eq] at hc
  obtain ⟨⟨⟨h1, h2⟩, h3⟩, h4⟩ := hc
  subst h4
  refine wpAnyH_take hi h1 h2 h3 (fun _ _ _ h => h) (.inr ⟨hF.want hw, rfl⟩) hS ?_
  rw [hdst]
  exact k _ (hF.put undef hd)

/-- The one that may come: what it does by the law of a list of one operation. -/
theorem h_one (i : Nat) (l' : Array Bool) (hi : ops[i]? = some o) (hc : oneOk ops l l' i = true)
    (h : wpList P ops (fun e a' w' => e = .normal ∧ S w' ∧ wpAnyH P .any ops (NoPanic Q) S fuel l' a' w') [o] a w) : wpAnyH P .any ops (NoPanic Q) S (fuel + 1) l a w := by
  simp only [oneOk, Bool.and_eq_true, beq_iff_eq] at hc
  obtain ⟨h1, h2⟩ := hc
  subst h2
  refine wpAnyH_all h1 (by simp) fun j hj => ?_
  have : j = i := by simpa using hj
  subst this
  unfold wpOp
  rw [hi]
  simp only [wpList] at h
  by_cases hwt : Region.wanted o (yielded ops a.tmps) = true
  · simp only [hwt, if_true] at h ⊢
    rcases h with h | ⟨_, _, _, h⟩
    · left
      unfold Oper.wp at h ⊢
      generalize (execOp a.eval o).run P w = r at h ⊢
      cases r with
      | ok x w' =>
        cases x <;> simp only [Oper.upon] at h ⊢
        case value u => exact h.2
        case skip => exact h.2
        case defer => exact h.2
        case enter f args =>
          refine h.mono fun e w'' he => ?_
          cases e with
          | returned u => exact he.2
          | panicked c => exact absurd he.1 (by simp)
          | outgrown => obtain ⟨_, _, he⟩ := he; exact absurd he.1 (by simp)
        case row row args => exact Rows.mono h fun u w'' he => he.2
      | halt x w' =>
        cases x <;> simp only [Oper.upon] at h ⊢
        exact absurd h.1 (by simp)
    · exact absurd h.1 (by simp)
  · simp only [hwt] at h ⊢
    exact h.2

theorem h_done (h1 : Region.ready .any ops l = []) (h : Q .normal a w) : wpAnyH P .any ops (NoPanic Q) S fuel l a w := wpAnyH_done h1 (NoPanic.normal h) fuel
end draws
end Go.K
/- A small library for walks, sixth part: small words. -/
namespace Go.K
open Go.RowKit

theorem ite_some {α : Type} {c : Prop} [Decidable c] {A : Option α} {r : α} (h : (if c then A else none) = some r) : c ∧ A = some r := by
  by_cases hc : c
  · rw [if_pos hc] at h; exact ⟨hc, h⟩
  · rw [if_neg hc] at h; cases h
theorem ite_cases {α : Type} {c : Prop} [Decidable c] {A B : Option α} {r : α} (h : (if c then A else B) = some r) : (c ∧ A = some r) ∨ (¬ c ∧ B = some r) := by
  by_cases hc : c
  · rw [if_pos hc] at h; exact .inl ⟨hc, h⟩
  · rw [if_neg hc] at h; exact .inr ⟨hc, h⟩
theorem bind_some {α β : Type} {x : Option α} {f : α → Option β} {r : β} (h : x.bind f = some r) : ∃ t, x = some t ∧ f t = some r := Option.bind_eq_some_iff.1 h
theorem bf {b : Bool} (h : ¬ b = true) : b = false := by cases b <;> simp_all
theorem none_some {α : Type} {r : α} {p : Prop} (h : (none : Option α) = some r) : p := by cases h
theorem some_some {α : Type} {x r : α} (h : some x = some r) : x = r := Option.some.inj h
theorem getD_some {α : Type} {xs : List α} {z : α} {m : Int} (h0 : 0 ≤ m) (h1 : m < xs.length) : xs[m.toNat]? = some (xs.getD m.toNat z) := by
  have hl : m.toNat < xs.length := by omega
  rw [List.getD_eq_getElem?_getD, List.getElem?_eq_getElem hl]
  rfl
theorem toNat_le {m p : Int} (h : m ≤ p) : m.toNat ≤ p.toNat := Int.toNat_le_toNat h
theorem toNat_len {m : Int} {n : Nat} (h : m ≤ n) : m.toNat ≤ n := by omega

section
variable {P : Program} {Q N : Exit → Act → World → Prop} {M : Act → World → Prop} {a : Act} {w : World} {i j : Nat}
theorem then_n (h : M a w) : Exit.then M Q .normal a w := h
theorem then_x (h : Q (.exit i) a w) : Exit.then M Q (.exit i) a w := h
theorem then_r (h : Q .ret a w) : Exit.then M Q .ret a w := h
theorem blk_n (h : Q .normal a w) : Exit.inBlock i Q .normal a w := h
theorem blk_r (h : Q .ret a w) : Exit.inBlock i Q .ret a w := h
theorem blk_x (h : Q .normal a w) : Exit.inBlock i Q (.exit i) a w := by simpa [Exit.inBlock] using h
theorem blk_y (hne : Nat.beq j i = false) (h : Q (.exit j) a w) : Exit.inBlock i Q (.exit j) a w := by
  have : j ≠ i := Nat.ne_of_beq_eq_false hne
  simpa [Exit.inBlock, this] using h
end
end Go.K
/- A small library for walks, seventh part: more of what the operations yield. -/
namespace Go.K
open Go.RowKit

theorem Fr.evs' {n : Nat} {a : Act} {fr : List (Nat × Value)} (h : Fr n a fr) {l : List Operand} {vs : List Value} (hv : K.evs fr l = some vs) : l.toArray.map a.eval = vs.toArray := by
  rw [List.map_toArray, h.evs hv]

theorem cat_single (p : Pt) : (ag [p]).cells.toList = p.cs := by simp [Value.cells, cat]

theorem sl_lo_l {lo hi : Int} {n : Nat} (c : 0 ≤ lo ∧ lo ≤ hi ∧ hi ≤ (n : Int)) : lo.toNat ≤ n := by omega
theorem sl_hi_l {lo hi : Int} {n : Nat} (_c : 0 ≤ lo ∧ lo ≤ hi ∧ hi ≤ (n : Int)) : n ≤ n := Nat.le_refl _
theorem sl_lo_h {lo hi : Int} {n : Nat} (_c : 0 ≤ lo ∧ lo ≤ hi ∧ hi ≤ (n : Int)) : 0 ≤ hi.toNat := Nat.zero_le _
theorem sl_hi_h {lo hi : Int} {n : Nat} (c : 0 ≤ lo ∧ lo ≤ hi ∧ hi ≤ (n : Int)) : hi.toNat ≤ n := by omega
theorem sl_lo_lh {lo hi : Int} {n : Nat} (c : 0 ≤ lo ∧ lo ≤ hi ∧ hi ≤ (n : Int)) : lo.toNat ≤ hi.toNat := by omega
theorem sl_hi_lh {lo hi : Int} {n : Nat} (c : 0 ≤ lo ∧ lo ≤ hi ∧ hi ≤ (n : Int)) : hi.toNat ≤ n := by omega

section evals
variable {X : List Nat} {P : Program} {a : Act} {w w0 : World} {n : Nat} {fr : List (Nat × Value)} {d : Option Tmp} {ty : TypeId} {pos : String} {aft : Array Edge} {g : Option (Nat × Bool)} {x y z : Operand} {v : Value} {m p : Int} {T T' : TypeId} {mem : List Res}

theorem e_build' {l : List (Nat × Operand)} {cells : List Value} {vs : List (Nat × Value)} (hF : Fr n a fr) (hv : evp fr l = some vs) (hb : P.built T vs = some cells.toArray) :
    (execOp a.eval ⟨d, .build T l.toArray, ty, pos, aft, g⟩).run P w = .ok (.value (.agg cells.toArray)) w := by
  refine e_build (vs := vs) ?_ hb
  rw [← hF.evp hv]
  simp

theorem e_max (hF : Fr n a fr) (hx : ev fr x = some (.int .i64 m)) (hy : ev fr y = some (.int .i64 p)) {ats : Array TypeId} :
    (execOp a.eval ⟨d, .call ⟨.builtin .max, #[x, y], ats⟩, ty, pos, aft, g⟩).run P w = .ok (.value (.int .i64 (if p > m then p else m))) w := by
  simp [execOp, resolve, invoke, builtin, Builtin.max_, Builtin.max2, hF.ev hx, hF.ev hy]
theorem e_min (hF : Fr n a fr) (hx : ev fr x = some (.int .i64 m)) (hy : ev fr y = some (.int .i64 p)) {ats : Array TypeId} :
    (execOp a.eval ⟨d, .call ⟨.builtin .min, #[x, y], ats⟩, ty, pos, aft, g⟩).run P w = .ok (.value (.int .i64 (if p < m then p else m))) w := by
  simp [execOp, resolve, invoke, builtin, Builtin.min_, Builtin.min2, hF.ev hx, hF.ev hy]

/-! slices of an array variable -/
section
variable {b o k E s : Nat} (hF : Fr n a fr) (hx : ev fr x = some (pt b o)) 
include hF hx
theorem e_slA0 (hu : P.underlying T = some (.array k E)) (hs : ∀ w, (sizeOf E).run P w = .ok s w) :
    (execOp a.eval ⟨d, .slice T x none none none, ty, pos, aft, g⟩).run P w = .ok (.value (.slice (some ⟨b, o, none⟩) k k)) w := by
  simp [execOp, hF.ev hx, Instr.sliceAt, run_underlying hu, Instr.sureAddr, Instr.sliceBounds, hs, Addr.add]
theorem e_slA_l {lo hi : Int} (hl : ev fr y = some (.int .i64 lo)) (hu : P.underlying T = some (.array k E)) (hs : ∀ w, (sizeOf E).run P w = .ok s w) (c : 0 ≤ lo ∧ lo ≤ hi ∧ hi ≤ (k : Int)) :
    (execOp a.eval ⟨d, .slice T x (some y) none none, ty, pos, aft, g⟩).run P w = .ok (.value (subv (.slice (some ⟨b, o, none⟩) k k) lo.toNat k s)) w := by
  have h1 : lo ≤ (k : Int) := Int.le_trans c.2.1 c.2.2
  simp [execOp, hF.ev hx, hF.ev hl, Instr.sliceAt, run_underlying hu, Instr.sureAddr, Instr.sliceBounds, Instr.sliceBound, asIntOf, c.1, h1, hs, subv]
  by_cases h : k = lo.toNat <;> simp [h]
theorem e_slA_h {lo hi : Int} (hh : ev fr z = some (.int .i64 hi)) (hu : P.underlying T = some (.array k E)) (hs : ∀ w, (sizeOf E).run P w = .ok s w) (c : 0 ≤ lo ∧ lo ≤ hi ∧ hi ≤ (k : Int)) :
    (execOp a.eval ⟨d, .slice T x none (some z) none, ty, pos, aft, g⟩).run P w = .ok (.value (subv (.slice (some ⟨b, o, none⟩) k k) 0 hi.toNat s)) w := by
  have h0 : 0 ≤ hi := Int.le_trans c.1 c.2.1
  simp [execOp, hF.ev hx, hF.ev hh, Instr.sliceAt, run_underlying hu, Instr.sureAddr, Instr.sliceBounds, Instr.sliceBound, asIntOf, h0, c.2.2, hs, subv]
  by_cases h : k = 0 <;> simp [h]
theorem e_slA_lh {lo hi : Int} (hl : ev fr y = some (.int .i64 lo)) (hh : ev fr z = some (.int .i64 hi)) (hu : P.underlying T = some (.array k E)) (hs : ∀ w, (sizeOf E).run P w = .ok s w) (c : 0 ≤ lo ∧ lo ≤ hi ∧ hi ≤ (k : Int)) :
    (execOp a.eval ⟨d, .slice T x (some y) (some z) none, ty, pos, aft, g⟩).run P w = .ok (.value (subv (.slice (some ⟨b, o, none⟩) k k) lo.toNat hi.toNat s)) w := by
  have h0 : 0 ≤ hi := Int.le_trans c.1 c.2.1
  have h3 : ((hi.toNat : Nat) : Int) = hi := Int.toNat_of_nonneg h0
  simp [execOp, hF.ev hx, hF.ev hl, hF.ev hh, Instr.sliceAt, run_underlying hu, Instr.sureAddr, Instr.sliceBounds, Instr.sliceBound, asIntOf, h0, c.1, c.2.1, c.2.2, h3, hs, subv]
  by_cases h : k = lo.toNat <;> simp [h]
end

/-! slices of slices -/
section
variable {E k s : Nat} (hF : Fr n a fr) (hx : ev fr x = some v)
include hF hx
theorem e_sl_n (hl' : SlF v k) (hu : P.underlying T = some (.slice E)) (hs : ∀ w, (sizeOf E).run P w = .ok s w) {lo hi : Int} (_c : 0 ≤ lo ∧ lo ≤ hi ∧ hi ≤ (k : Int)) :
    (execOp a.eval ⟨d, .slice T x none none none, ty, pos, aft, g⟩).run P w = .ok (.value (subv v 0 k s)) w := by
  obtain ⟨b, hv, _⟩ := hl'.form
  have hx' := hF.ev hx
  simp only [execOp, hx']
  rw [hv]
  simp [Instr.sliceAt, Instr.slice, run_underlying hu, Instr.sliceBounds, hs, subv]
theorem e_sl_l {lo hi : Int} (hl : ev fr y = some (.int .i64 lo)) (hl' : SlF v k) (hu : P.underlying T = some (.slice E)) (hs : ∀ w, (sizeOf E).run P w = .ok s w) (c : 0 ≤ lo ∧ lo ≤ hi ∧ hi ≤ (k : Int)) :
    (execOp a.eval ⟨d, .slice T x (some y) none none, ty, pos, aft, g⟩).run P w = .ok (.value (subv v lo.toNat k s)) w := by
  obtain ⟨b, hv, _⟩ := hl'.form
  have hx' := hF.ev hx
  have h1 : lo ≤ (k : Int) := Int.le_trans c.2.1 c.2.2
  simp only [execOp, hx']
  rw [hv]
  simp [hF.ev hl, Instr.sliceAt, Instr.slice, run_underlying hu, Instr.sliceBounds, Instr.sliceBound, asIntOf, c.1, h1, hs, subv]
theorem e_sl_h {lo hi : Int} (hh : ev fr z = some (.int .i64 hi)) (hl' : SlF v k) (hu : P.underlying T = some (.slice E)) (hs : ∀ w, (sizeOf E).run P w = .ok s w) (c : 0 ≤ lo ∧ lo ≤ hi ∧ hi ≤ (k : Int)) :
    (execOp a.eval ⟨d, .slice T x none (some z) none, ty, pos, aft, g⟩).run P w = .ok (.value (subv v 0 hi.toNat s)) w := by
  obtain ⟨b, hv, _⟩ := hl'.form
  have hx' := hF.ev hx
  have hc := hl'.cap
  have h0 : 0 ≤ hi := Int.le_trans c.1 c.2.1
  have h1 : hi ≤ (scap v : Int) := by have := c.2.2; omega
  simp only [execOp, hx']
  rw [hv]
  simp [hF.ev hh, Instr.sliceAt, Instr.slice, run_underlying hu, Instr.sliceBounds, Instr.sliceBound, asIntOf, h0, h1, hs, subv]
theorem e_sl_lh {lo hi : Int} (hl : ev fr y = some (.int .i64 lo)) (hh : ev fr z = some (.int .i64 hi)) (hl' : SlF v k) (hu : P.underlying T = some (.slice E)) (hs : ∀ w, (sizeOf E).run P w = .ok s w) (c : 0 ≤ lo ∧ lo ≤ hi ∧ hi ≤ (k : Int)) :
    (execOp a.eval ⟨d, .slice T x (some y) (some z) none, ty, pos, aft, g⟩).run P w = .ok (.value (subv v lo.toNat hi.toNat s)) w := by
  obtain ⟨b, hv, _⟩ := hl'.form
  have hx' := hF.ev hx
  have hc := hl'.cap
  have h0 : 0 ≤ hi := Int.le_trans c.1 c.2.1
  have h1 : hi ≤ (scap v : Int) := by have := c.2.2; omega
  have h3 : ((hi.toNat : Nat) : Int) = hi := Int.toNat_of_nonneg h0
  simp only [execOp, hx']
  rw [hv]
  simp [hF.ev hl, hF.ev hh, Instr.sliceAt, Instr.slice, run_underlying hu, Instr.sliceBounds, Instr.sliceBound, asIntOf, h0, h1, c.1, c.2.1, h3, hs, subv]
end

/-- A run of parts of an element of a slice. -/
theorem e_ldsap {α : Type} {C : Cd α} {xs : List α} {e : α} {o s : Nat} {qs : List Pt} (k c : Nat) (hF : Fr n a fr) (hx : ev fr x = some (pt (sblk v) (soff v + m.toNat * C.s + o))) (hl : SlR C w v xs) (he : xs[m.toNat]? = some e) (hq : ((C.ps e).drop k).take c = qs) (ho : offs ((C.ps e).take k) = o) (hs : ∀ w, (isAgg T).run P w = .ok true w) (hz : ∀ w, (sizeOf T).run P w = .ok s w) (hn : offs qs = s) :
    (execOp a.eval ⟨d, .load T x, ty, pos, aft, g⟩).run P w = .ok (.value (ag qs)) w := by
  refine e_ld1 (cat qs) hF hx hs hz (by rw [cat_length, hn]) (fun j u hu => ?_)
  have h := cat_take_drop (C.ps e) k c
  rw [hq, ho] at h
  rw [← h, List.getElem?_take] at hu
  split at hu
  · rw [List.getElem?_drop] at hu
    have hlt : o + j < C.s := by
      have := (List.getElem?_eq_some_iff.1 hu).1
      rwa [cat_length, C.hs] at this
    rw [Nat.add_assoc, Nat.add_assoc]
    exact hl.cell _ _ (by rw [C.cells_get xs m.toNat e _ he hlt]; exact hu)
  · cases hu
end evals

section steps
variable {X : List Nat} {P : Program} {ops : Array Oper} {Q : Exit → Act → World → Prop} {rest : List Oper} {a : Act} {w w0 : World} {n : Nat} {fr : List (Nat × Value)} {d : Nat} {ty : TypeId} {pos : String} {aft : Array Edge} {g : Option (Nat × Bool)} {x y z : Operand} {v : Value} {m m2 p : Int} {T T' : TypeId} {mem : List Res}

/-- Part k of an element of a slice of one's own is stored. -/
theorem s_stsp {α : Type} {C : Cd α} {xs : List α} {e : α} {i o k s : Nat} {u : Value} {q : Pt} (e' : α) (q' : Pt) (hF : Fr n a fr) (hM : Ms X w0 w mem) (hw : want ops fr g = some true) (hx : ev fr x = some (pt (sblk v) (soff v + m.toNat * C.s + o))) (hy : ev fr y = some u) (hv : u.cells.toList = q'.cs) (hi : mem[i]? = some (rowR C v xs)) (he : xs[m.toNat]? = some e) (hk : (C.ps e)[k]? = some q) (ho : offs ((C.ps e).take k) = o) (hn : q'.n = q.n) (hps : C.ps e' = (C.ps e).set k q') (hs : ∀ w, (sizeOf T).run P w = .ok s w) (hsn : q'.n = s) (hpos : Nat.blt 0 q'.n = true)
    (kk : ∀ a' w', Fr n a' fr → Ms X w0 w' (mem.set i (rowR C v (xs.set m.toNat e'))) → wpList P ops Q rest a' w') : wpList P ops Q (⟨none, .store T x y, ty, pos, aft, g⟩ :: rest) a w := by
  have hc := cat_set (C.ps e) k q q' hk hn
  rw [ho, ← hps] at hc
  have hle := offs_take_le (C.ps e) k q hk
  rw [ho, C.hs] at hle
  refine s_stsc (o := o) (e := e) e' q'.cs hF hM hw (by rw [← Nat.add_assoc]; exact hx) hy hv hi he q'.one (by rw [q'.h]; exact Nat.le_of_ble_eq_true hpos) (by rw [q'.h, hn]; exact hle) (by rw [q'.h]; exact hc) hs (by rw [q'.h]; exact hsn) kk

/-- Element m2 of an array that is part k of an element of a slice of one's own is stored. -/
theorem s_stsi {α : Type} {C : Cd α} {xs : List α} {e : α} {i o k c : Nat} {q : Ar c} (e' : α) (hF : Fr n a fr) (hM : Ms X w0 w mem) (hw : want ops fr g = some true) (hx : ev fr x = some (pt (sblk v) (soff v + m.toNat * C.s + o + m2.toNat * 1))) (hy : ev fr y = some (.int .i64 p)) (hi : mem[i]? = some (rowR C v xs)) (he : xs[m.toNat]? = some e) (hk : (C.ps e)[k]? = some (Pt.ar q)) (ho : offs ((C.ps e).take k) = o) (hps : C.ps e' = (C.ps e).set k (Pt.ar (q.set m2 p))) (hs : ∀ w, (sizeOf T).run P w = .ok 1 w) (h0 : 0 ≤ m2) (h1 : m2 < c)
    (kk : ∀ a' w', Fr n a' fr → Ms X w0 w' (mem.set i (rowR C v (xs.set m.toNat e'))) → wpList P ops Q rest a' w') : wpList P ops Q (⟨none, .store T x y, ty, pos, aft, g⟩ :: rest) a w := by
  have hmc : m2.toNat < c := by omega
  have hc := cat_set (C.ps e) k _ (Pt.ar (q.set m2 p)) hk rfl
  have hc0 := cat_set (C.ps e) k _ (Pt.ar q) hk rfl
  rw [set_self _ k _ hk] at hc0
  rw [ho, ← hps] at hc
  rw [ho] at hc0
  have hle := offs_take_le (C.ps e) k _ hk
  rw [ho, C.hs] at hle
  have hle' : o + c ≤ C.s := hle
  have hlen : (cat (C.ps e)).length = C.s := by rw [cat_length, C.hs]
  have hlen0 : ((cat (C.ps e)).take o).length = o := by rw [List.length_take]; omega
  have hql : (Pt.ar q).cs.length = c := (Pt.ar q).h
  have hnq : (Pt.ar q).n = c := rfl
  have hnq2 : (Pt.ar (q.set m2 p)).n = c := rfl
  rw [hnq] at hc0
  rw [hnq2, ar_set_cells q m2 p h0 h1] at hc
  refine s_stsc (o := o + m2.toNat * 1) (e := e) e' [.int .i64 p] hF hM hw (by rw [← Nat.add_assoc, ← Nat.add_assoc]; exact hx) hy rfl hi he (by simp [Value.oneCell']) (by simp) (by simp; omega) ?_ hs rfl kk
  have t1 : (cat (C.ps e)).take (o + m2.toNat * 1) = (cat (C.ps e)).take o ++ (Pt.ar q).cs.take m2.toNat := by
    conv => lhs; rw [hc0]
    rw [Nat.mul_one, List.append_assoc, List.take_append, hlen0, List.take_of_length_le (by rw [hlen0]; omega), Nat.add_sub_cancel_left, List.take_append, hql]
    rw [show m2.toNat - c = 0 by omega, List.take_zero, List.append_nil]
  have t2 : (cat (C.ps e)).drop (o + m2.toNat * 1 + 1) = (Pt.ar q).cs.drop (m2.toNat + 1) ++ (cat (C.ps e)).drop (o + c) := by
    conv => lhs; rw [hc0]
    rw [Nat.mul_one, List.append_assoc, Nat.add_assoc, List.drop_append, hlen0, List.drop_of_length_le (by rw [hlen0]; omega), List.nil_append, Nat.add_sub_cancel_left, List.drop_append, hql]
    rw [show m2.toNat + 1 - c = 0 by omega, List.drop_zero]
  simp only [List.length_singleton]
  rw [hc, t1, t2]
  simp
end steps
end Go.K
namespace Go.K
open Go.RowKit
theorem forIn_eq (f : Nat → Sem Bool) (P : Program) (w : World) (g : Nat → Bool) : ∀ (c s : Nat), (∀ i, s ≤ i → i < s + c → (f i).run P w = .ok (g i) w) →
    ((forIn (List.range' s c) ((none, ()) : Option Bool × Unit) (fun i _ => do
      let b ← f i
      if (!b) = true then pure (ForInStep.done (some false, ())) else pure (ForInStep.yield (none, ())))) : Sem _).run P w
      = .ok (if (List.range' s c).all g then none else some false, ()) w
  | 0, s, _ => by simp
  | c + 1, s, h => by
    have h0 := h s (Nat.le_refl _) (by omega)
    have ih := forIn_eq f P w g c (s + 1) (fun i h1 h2 => h i (by omega) (by omega))
    rw [List.range'_succ, List.forIn_cons]
    rcases Bool.eq_false_or_eq_true (g s) with hg | hg
    · simp only [Sem.run_bind, h0, Result.andThen_ok, hg, Bool.not_true, Bool.false_eq_true, if_false, Sem.run_pure, ih, List.all_cons, Bool.true_and]
    · simp [h0, hg]
end Go.K
namespace Go.K
theorem Ar.cases2 (a : Ar 2) : ∃ x y, a = ⟨[x, y], rfl⟩ := by
  obtain ⟨l, h⟩ := a
  match l, h with
  | [x, y], _ => exact ⟨x, y, rfl⟩
theorem Ar.cases4 (a : Ar 4) : ∃ x y z u, a = ⟨[x, y, z, u], rfl⟩ := by
  obtain ⟨l, h⟩ := a
  match l, h with
  | [x, y, z, u], _ => exact ⟨x, y, z, u, rfl⟩
theorem Ar.cases6 (a : Ar 6) : ∃ x y z u v w, a = ⟨[x, y, z, u, v, w], rfl⟩ := by
  obtain ⟨l, h⟩ := a
  match l, h with
  | [x, y, z, u, v, w], _ => exact ⟨x, y, z, u, v, w, rfl⟩
end Go.K
namespace Go.K
open Go.RowKit
theorem run_equalIn_arr {P : Program} {T E k D : Nat} (x y : Ar k) (w : World) (hin : ∀ a b, (Op.equalIn D E (.int .i64 a) (.int .i64 b)).run P w = .ok (a == b) w) (hu : P.underlying T = some (.array k E)) (hs : ∀ w, (sizeOf E).run P w = .ok 1 w) (ha : ∀ w, (isAgg E).run P w = .ok false w) :
    (Op.equalIn (D + 1) T (ag [Pt.ar x]) (ag [Pt.ar y])).run P w = .ok (decide (x = y)) w := by
  have hp : ∀ (z : Ar k) (i : Nat), i < k → (part E (cat [Pt.ar z]).toArray (i * 1)).run P w = .ok (.int .i64 (z.l.getD i 0)) w := by
    intro z i hi
    have hl : i < z.l.length := by rw [z.h]; exact hi
    have hc : (cat [Pt.ar z])[i]? = some (.int .i64 (z.l.getD i 0)) := by
      simp [cat, Pt.ar, ints, List.getElem?_eq_getElem hl]
    simp [part, ha, hc]
  have key := forIn_eq (fun i => do
      let a ← part E (cat [Pt.ar x]).toArray (i * 1)
      let b ← part E (cat [Pt.ar y]).toArray (i * 1)
      Op.equalIn D E a b) P w (fun i => x.l.getD i 0 == y.l.getD i 0) k 0 (by
        intro i _ hi
        have hi' : i < k := by omega
        simp only [Sem.run_bind, hp x i hi', hp y i hi', Result.andThen_ok]
        exact hin _ _)
  have hall : (List.range' 0 k).all (fun i => x.l.getD i 0 == y.l.getD i 0) = decide (x = y) := by
    rw [Bool.eq_iff_iff]
    simp only [List.all_eq_true, List.mem_range'_1, beq_iff_eq, decide_eq_true_eq]
    constructor
    · intro h
      apply Ar.ext
      apply List.ext_getElem?
      intro i
      by_cases hi : i < k
      · have h1 : i < x.l.length := by rw [x.h]; exact hi
        have h2 : i < y.l.length := by rw [y.h]; exact hi
        have := h i (by omega)
        rw [List.getD_eq_getElem?_getD, List.getD_eq_getElem?_getD, List.getElem?_eq_getElem h1, List.getElem?_eq_getElem h2] at this
        rw [List.getElem?_eq_getElem h1, List.getElem?_eq_getElem h2]
        simpa using this
      · rw [List.getElem?_eq_none (by rw [x.h]; omega), List.getElem?_eq_none (by rw [y.h]; omega)]
    · rintro rfl i _
      rfl
  rw [hall] at key
  have hrange : ∀ (β : Type) (init : β) (f : Nat → β → Sem (ForInStep β)), (forIn [:k] init f : Sem β) = forIn (List.range' 0 k) init f := by
    intro β init f
    rw [Std.Legacy.Range.forIn_eq_forIn_range']
    simp [Std.Legacy.Range.size]
  simp only [Op.equalIn, Sem.run_bind, run_underlying hu, Result.andThen_ok, hs]
  rw [hrange]
  simp only [bind_assoc] at key
  rw [key]
  cases decide (x = y) <;> simp

section
variable {P : Program} {a : Act} {w : World} {n : Nat} {fr : List (Nat × Value)} {d : Option Tmp} {ty : TypeId} {pos : String} {aft : Array Edge} {g : Option (Nat × Bool)} {x y : Operand} {T T' E k : Nat}
theorem e_aeql (p q : Ar k) (hu : P.underlying T = some (.array k E)) (hE : P.underlying E = some (.int .i64)) (hs : ∀ w, (sizeOf E).run P w = .ok 1 w) (ha : ∀ w, (isAgg E).run P w = .ok false w) (hg : P.eqGuardType P.depth T = false) (hF : Fr n a fr) (hx : ev fr x = some (ag [Pt.ar p])) (hy : ev fr y = some (ag [Pt.ar q])) :
    (execOp a.eval ⟨d, .binOp .eql T x y T', ty, pos, aft, g⟩).run P w = .ok (.value (.bool (decide (p = q)))) w := by
  have h := run_equalIn_arr (P := P) (D := 9999) p q w (fun a b => run_equalIn_int w 9998 E .i64 .i64 a b hE) hu hs ha
  simp [execOp, hF.ev hx, hF.ev hy, run_eqGuard_agg w _ T x y _ _ hg, run_eql_struct w T, h]
theorem e_aneq (p q : Ar k) (hu : P.underlying T = some (.array k E)) (hE : P.underlying E = some (.int .i64)) (hs : ∀ w, (sizeOf E).run P w = .ok 1 w) (ha : ∀ w, (isAgg E).run P w = .ok false w) (hg : P.eqGuardType P.depth T = false) (hF : Fr n a fr) (hx : ev fr x = some (ag [Pt.ar p])) (hy : ev fr y = some (ag [Pt.ar q])) :
    (execOp a.eval ⟨d, .binOp .neq T x y T', ty, pos, aft, g⟩).run P w = .ok (.value (.bool (!decide (p = q)))) w := by
  have h := run_equalIn_arr (P := P) (D := 9999) p q w (fun a b => run_equalIn_int w 9998 E .i64 .i64 a b hE) hu hs ha
  simp [execOp, hF.ev hx, hF.ev hy, run_eqGuard_agg w _ T x y _ _ hg, run_neq_struct w T, h]
end
end Go.K
/- A small library for walks, ninth part: boxes that are lent, function values with boxes, several operations whose order is open. -/
namespace Go.K
open Go.RowKit

theorem box_frm {b T : Nat} {ps : List Pt} {w0 w : World} (h : (boxR b ps T).holds w0) (hf : Frm [] w0 w) : (boxR b ps T).holds w := by
  have h' : w0.heap[b]? = some (.cells (cat ps).toArray T (0, 0)) := h
  show w.heap[b]? = _
  rw [hf.block b (Array.getElem?_eq_some_iff.1 h').1 (by simp), h']

theorem e_ldb {P : Program} {a : Act} {w : World} {n : Nat} {fr : List (Nat × Value)} {d : Option Tmp} {ty : TypeId} {pos : String} {aft : Array Edge} {g : Option (Nat × Bool)} {x : Operand} {v : Value} {T : TypeId} {b o k TB : Nat} {ps : List Pt} {q : Pt} (hF : Fr n a fr) (hq0 : (boxR b ps TB).holds w) (hx : ev fr x = some (pt b o)) (hk : ps[k]? = some q) (ho : offs (ps.take k) = o) (hs : ∀ w, (isAgg T).run P w = .ok false w) (hq : q.cs = [v]) :
    (execOp a.eval ⟨d, .load T x, ty, pos, aft, g⟩).run P w = .ok (.value v) w := by
  refine e_ld0 hF hx hs ?_
  have hb : w.heap[b]? = some (.cells (cat ps).toArray TB (0, 0)) := hq0
  rw [cell_of_row w b o _ TB (0, 0) hb]
  have hn : 0 < q.n := by rw [← q.h, hq]; exact Nat.one_pos
  have := cat_get ps k q 0 hk hn
  rw [ho, hq] at this
  simpa using this

theorem callsV_of {P : Program} {f : FuncId} {cap vs : List Value} {w : World} {R : Ending → World → Prop} (hf : ∀ args w, (callFunc f args).run P w = .ok (.enter f args) w) (h : Calls P f (vs ++ cap).toArray w R) : CallsV P (.func (.func f) #[] cap.toArray) vs w R :=
  ⟨f, cap.toArray, rfl, hf, by rw [List.append_toArray]; exact h⟩

section draws
variable {P : Program} {ops : Array Oper} {Q : Exit → Act → World → Prop} {a : Act} {w : World} {S : World → Prop} {fuel : Nat} {l : Array Bool}
def manyOk (ops : Array Oper) (l : Array Bool) (is : List Nat) : Bool := (Region.ready .any ops l == is) && !is.isEmpty

/-- Several may come: each of them, by the law of a list of one operation. -/
theorem h_many (is : List Nat) (hc : manyOk ops l is = true)
    (h : ∀ i ∈ is, ∃ o, ops[i]? = some o ∧ wpList P ops (fun e a' w' => e = .normal ∧ S w' ∧ wpAnyH P .any ops (NoPanic Q) S fuel (l.setIfInBounds i true) a' w') [o] a w) : wpAnyH P .any ops (NoPanic Q) S (fuel + 1) l a w := by
  simp only [manyOk, Bool.and_eq_true, beq_iff_eq, Bool.not_eq_true', List.isEmpty_eq_false_iff] at hc
  obtain ⟨h1, h2⟩ := hc
  refine wpAnyH_all h1 h2 fun j hj => ?_
  obtain ⟨o, hi, h⟩ := h j hj
  unfold wpOp
  rw [hi]
  simp only [wpList] at h
  by_cases hwt : Region.wanted o (yielded ops a.tmps) = true
  · simp only [hwt, if_true] at h ⊢
    rcases h with h | ⟨_, _, _, h⟩
    · left
      unfold Oper.wp at h ⊢
      generalize (execOp a.eval o).run P w = r at h ⊢
      cases r with
      | ok x w' =>
        cases x <;> simp only [Oper.upon] at h ⊢
        case value u => exact h.2
        case skip => exact h.2
        case defer => exact h.2
        case enter f args =>
          refine h.mono fun e w'' he => ?_
          cases e with
          | returned u => exact he.2
          | panicked c => exact absurd he.1 (by simp)
          | outgrown => obtain ⟨_, _, he⟩ := he; exact absurd he.1 (by simp)
        case row row args => exact Rows.mono h fun u w'' he => he.2
      | halt x w' =>
        cases x <;> simp only [Oper.upon] at h ⊢
        exact absurd h.1 (by simp)
    · exact absurd h.1 (by simp)
  · simp only [hwt] at h ⊢
    exact h.2

theorem h_two (i j : Nat) (li lj : Array Bool) {oi oj : Oper} (hi : ops[i]? = some oi) (hj : ops[j]? = some oj) (hli : l.setIfInBounds i true = li) (hlj : l.setIfInBounds j true = lj) (hc : manyOk ops l [i, j] = true)
    (h1 : wpList P ops (fun e a' w' => e = .normal ∧ S w' ∧ wpAnyH P .any ops (NoPanic Q) S fuel li a' w') [oi] a w)
    (h2 : wpList P ops (fun e a' w' => e = .normal ∧ S w' ∧ wpAnyH P .any ops (NoPanic Q) S fuel lj a' w') [oj] a w) : wpAnyH P .any ops (NoPanic Q) S (fuel + 1) l a w := by
  subst hli hlj
  refine h_many [i, j] hc fun k hk => ?_
  simp only [List.mem_cons, List.not_mem_nil, or_false] at hk
  rcases hk with rfl | rfl
  · exact ⟨_, hi, h1⟩
  · exact ⟨_, hj, h2⟩

theorem h_three (i j m : Nat) (li lj lm : Array Bool) {oi oj om : Oper} (hi : ops[i]? = some oi) (hj : ops[j]? = some oj) (hm : ops[m]? = some om) (hli : l.setIfInBounds i true = li) (hlj : l.setIfInBounds j true = lj) (hlm : l.setIfInBounds m true = lm) (hc : manyOk ops l [i, j, m] = true)
    (h1 : wpList P ops (fun e a' w' => e = .normal ∧ S w' ∧ wpAnyH P .any ops (NoPanic Q) S fuel li a' w') [oi] a w)
    (h2 : wpList P ops (fun e a' w' => e = .normal ∧ S w' ∧ wpAnyH P .any ops (NoPanic Q) S fuel lj a' w') [oj] a w)
    (h3 : wpList P ops (fun e a' w' => e = .normal ∧ S w' ∧ wpAnyH P .any ops (NoPanic Q) S fuel lm a' w') [om] a w) : wpAnyH P .any ops (NoPanic Q) S (fuel + 1) l a w := by
  subst hli hlj hlm
  refine h_many [i, j, m] hc fun k hk => ?_
  simp only [List.mem_cons, List.not_mem_nil, or_false] at hk
  rcases hk with rfl | rfl | rfl
  · exact ⟨_, hi, h1⟩
  · exact ⟨_, hj, h2⟩
  · exact ⟨_, hm, h3⟩
end draws
end Go.K
/- A small library for walks, tenth part: nil slices, lent boxes with arrays, structs compared, memory that is lent to a call and comes back. -/
namespace Go.K
set_option linter.unusedSimpArgs false
open Go.RowKit

/-! ### nil slices -/
def isNilV : Value → Bool
  | .slice none _ _ => true
  | _ => false
theorem SlR.nil_of {α : Type} {C : Cd α} {w : World} {v : Value} {xs : List α} (h : SlR C w v xs) (hn : isNilV v = true) : xs = [] := by
  obtain ⟨a, h1, h2⟩ := h.form
  rw [h1] at hn
  cases a with
  | none =>
    cases xs with
    | nil => rfl
    | cons x r => exact absurd (h2 (by simp)) (by simp)
  | some b => simp [isNilV] at hn

section
variable {P : Program} {a : Act} {w : World} {n : Nat} {fr : List (Nat × Value)} {d : Option Tmp} {ty : TypeId} {pos : String} {aft : Array Edge} {g : Option (Nat × Bool)} {x y : Operand} {v : Value} {T T' : TypeId}
theorem e_slnil {E k : Nat} (hF : Fr n a fr) (hx : ev fr x = some v) (hs : SlF v k) (hu : P.underlying T = some (.slice E)) :
    (execOp a.eval ⟨d, .binOp .eql T x (.const (.slice none 0 0)) T', ty, pos, aft, g⟩).run P w = .ok (.value (.bool (isNilV v))) w := by
  obtain ⟨b, hv, _⟩ := hs.form
  have hx' := hF.ev hx
  have h := Lib.run_eql_slice_nil (P := P) w T E b k (scap v) 0 0 hu
  have hc : a.eval (.const (.slice none 0 0)) = .slice none 0 0 := rfl
  simp only [execOp, hx', hc]
  rw [hv]
  have hn : isNilV (.slice b k (scap v)) = b.isNone := by cases b <;> rfl
  rw [hn]
  simp [eqGuard, h]
end

theorem s_retn {P : Program} {w : World} {n : Nat} {a : Act} {fr : List (Nat × Value)} {fn : Func} {R : Ending → World → Prop} {l : List ResultVar} (vs : List Value) (hF : Fr n a fr) (hr : fn.results = l.toArray) (hv : RVs P fr w l vs) (h : R (.returned (tupv vs)) w) : bodyPost P fn R .normal a w := s_ret vs hF hr hv h

/-! ### lent boxes -/
theorem lent_ms {b T : Nat} {ps : List Pt} {w : World} (h : (boxR b ps T).holds w) : Ms [b] w w [boxR b ps T] :=
  Ms.start1 w (boxR b ps T) h fun c hc => by
    have : c = b := by simpa [boxR] using hc
    subst this
    have h' : w.heap[c]? = some (.cells (cat ps).toArray T (0, 0)) := h
    exact (Array.getElem?_eq_some_iff.1 h').1

/-! ### structs compared -/
section
variable {P : Program} {a : Act} {w : World} {n : Nat} {fr : List (Nat × Value)} {d : Option Tmp} {ty : TypeId} {pos : String} {aft : Array Edge} {g : Option (Nat × Bool)} {x y : Operand} {T T' E k : Nat}

theorem part_of {P : Program} {w : World} {t o s : Nat} {ps qs : List Pt} (i c : Nat) (hq : (ps.drop i).take c = qs) (ho : offs (ps.take i) = o) (hs : ∀ w, (isAgg t).run P w = .ok true w) (hz : ∀ w, (sizeOf t).run P w = .ok s w) (hn : offs qs = s) :
    (part t (cat ps).toArray o).run P w = .ok (ag qs) w := by
  have h := cat_take_drop ps i c
  rw [hq, ho, hn] at h
  simp [part, hs, hz, h]

/-- A struct of one array. -/
theorem run_eq1 (p q : Ar k) {f : Field} (hu : P.underlying T = some (.struct #[f])) (hp : P.stoodInHeld T = false) (hf : f.name ≠ "_") (ho : f.offset = 0) (hA : P.underlying f.type = some (.array k E)) (hE : P.underlying E = some (.int .i64)) (hs : ∀ w, (sizeOf E).run P w = .ok 1 w) (ha : ∀ w, (isAgg E).run P w = .ok false w) (hsf : ∀ w, (sizeOf f.type).run P w = .ok k w) (haf : ∀ w, (isAgg f.type).run P w = .ok true w) :
    (Op.equalIn 10000 T (ag [Pt.ar p]) (ag [Pt.ar q])).run P w = .ok (decide (p = q)) w := by
  have hfs : P.fieldsOf T = #[f] := by simp [Program.fieldsOf, hu]
  have h := run_equalIn_arr (P := P) (D := 9998) p q w (fun a b => run_equalIn_int w 9997 E .i64 .i64 a b hE) hA hs ha
  have h1 : ∀ z : Ar k, (part f.type (cat [Pt.ar z]).toArray 0).run P w = .ok (ag [Pt.ar z]) w := fun z => part_of 0 1 rfl rfl haf hsf rfl
  rw [run_equalIn_struct w 9999 T _ _ (by rw [hfs]; exact hu) hp, hfs]
  simp only [Op.eqFields, hf, ne_eq, not_false_eq_true, if_true, Sem.run_bind, ho, h1, Result.andThen_ok, h]
  cases decide (p = q) <;> simp [Op.eqFields]

/-- A struct of two arrays. -/
theorem run_eq2 (p q : Ar k × Ar k) {f f' : Field} (hu : P.underlying T = some (.struct #[f, f'])) (hp : P.stoodInHeld T = false) (hf : f.name ≠ "_") (hf' : f'.name ≠ "_") (ho : f.offset = 0) (ho' : f'.offset = k) (he : f'.type = f.type) (hA : P.underlying f.type = some (.array k E)) (hE : P.underlying E = some (.int .i64)) (hs : ∀ w, (sizeOf E).run P w = .ok 1 w) (ha : ∀ w, (isAgg E).run P w = .ok false w) (hsf : ∀ w, (sizeOf f.type).run P w = .ok k w) (haf : ∀ w, (isAgg f.type).run P w = .ok true w) :
    (Op.equalIn 10000 T (ag [Pt.ar p.1, Pt.ar p.2]) (ag [Pt.ar q.1, Pt.ar q.2])).run P w = .ok (decide (p = q)) w := by
  have hfs : P.fieldsOf T = #[f, f'] := by simp [Program.fieldsOf, hu]
  have h := fun (x y : Ar k) => run_equalIn_arr (P := P) (D := 9998) x y w (fun a b => run_equalIn_int w 9997 E .i64 .i64 a b hE) hA hs ha
  have h1 : ∀ z : Ar k × Ar k, (part f.type (cat [Pt.ar z.1, Pt.ar z.2]).toArray 0).run P w = .ok (ag [Pt.ar z.1]) w := fun z => part_of 0 1 rfl rfl haf hsf rfl
  have h2 : ∀ z : Ar k × Ar k, (part f.type (cat [Pt.ar z.1, Pt.ar z.2]).toArray k).run P w = .ok (ag [Pt.ar z.2]) w := fun z => part_of 1 1 rfl rfl haf hsf rfl
  have hd : decide (p = q) = (decide (p.1 = q.1) && decide (p.2 = q.2)) := by
    rw [Bool.eq_iff_iff]
    simp [Prod.ext_iff]
  rw [run_equalIn_struct w 9999 T _ _ (by rw [hfs]; exact hu) hp, hfs, hd]
  simp only [Op.eqFields, hf, hf', ne_eq, not_false_eq_true, if_true, Sem.run_bind, ho, ho', he, h1, h2, Result.andThen_ok, h]
  cases h3 : decide (p.1 = q.1) <;> cases h4 : decide (p.2 = q.2) <;> simp [Op.eqFields, h1, h2, h, h3, h4, ho', he, hf']

theorem e_aggeq (b : Bool) {xs ys : Array Value} (he : (Op.equalIn 10000 T (.agg xs) (.agg ys)).run P w = .ok b w) (hg : P.eqGuardType P.depth T = false) (hF : Fr n a fr) (hx : ev fr x = some (.agg xs)) (hy : ev fr y = some (.agg ys)) :
    (execOp a.eval ⟨d, .binOp .eql T x y T', ty, pos, aft, g⟩).run P w = .ok (.value (.bool b)) w := by
  simp [execOp, hF.ev hx, hF.ev hy, run_eqGuard_agg w _ T x y _ _ hg, run_eql_struct w T, he]
theorem e_aggne (b : Bool) {xs ys : Array Value} (he : (Op.equalIn 10000 T (.agg xs) (.agg ys)).run P w = .ok b w) (hg : P.eqGuardType P.depth T = false) (hF : Fr n a fr) (hx : ev fr x = some (.agg xs)) (hy : ev fr y = some (.agg ys)) :
    (execOp a.eval ⟨d, .binOp .neq T x y T', ty, pos, aft, g⟩).run P w = .ok (.value (.bool (!b))) w := by
  simp [execOp, hF.ev hx, hF.ev hy, run_eqGuard_agg w _ T x y _ _ hg, run_neq_struct w T, he]
end

/-! ### a cell that holds any value -/
def Pt.any (v : Value) : Pt := ⟨1, [bif v.oneCell' then v else .bool false], rfl, by
  intro u hu
  have : u = bif v.oneCell' then v else .bool false := by simpa using hu
  subst this
  cases h : v.oneCell' with
  | true => exact h
  | false => rfl⟩
theorem SlF.one {v : Value} {n : Nat} (h : SlF v n) : v.oneCell' = true := by
  obtain ⟨a, h1, _⟩ := h.form
  rw [h1]; rfl
theorem any_cs {v : Value} (h : v.oneCell' = true) : (Pt.any v).cs = [v] := by
  show [bif v.oneCell' then v else .bool false] = [v]
  rw [h]; rfl
theorem any_cells {v : Value} (h : v.oneCell' = true) : v.cells.toList = (Pt.any v).cs := by
  rw [any_cs h]
  unfold Value.oneCell' at h
  split at h
  · cases h
  · cases h
  · rename_i h1 h2
    unfold Value.cells
    split
    · rename_i cs
      exact absurd rfl (h1 cs)
    · rfl
theorem any_box {v : Value} (h : v.oneCell' = true) : v.cells = (cat [Pt.any v]).toArray := by
  apply Array.ext'
  rw [any_cells h]
  simp [cat]

/-! ### memory that is lent to a call and comes back -/
def feet (A : List Res) : List Nat := A.flatMap Res.foot
theorem feet_mem {A : List Res} {R : Res} {b : Nat} (h : R ∈ A) (hb : b ∈ R.foot) : b ∈ feet A := List.mem_flatMap.2 ⟨R, h, hb⟩

theorem Ms.lend {X : List Nat} {w0 w : World} {mem A : List Res} (h : Ms X w0 w mem) (is : List Nat) (hd : decide is.Nodup = true) (hp : picks mem is = some A) : Ms (feet A) w w A := by
  have h' := h.pick is hd hp
  exact ⟨Frm.refl _ _, h'.holds, fun R hR b hb => ⟨.inl (feet_mem hR hb), (h'.foots R hR b hb).2⟩, h'.disj⟩

theorem nodup_append {l m : List Nat} (h : (l ++ m).Nodup) : l.Nodup ∧ m.Nodup ∧ ∀ i ∈ l, i ∉ m := by
  rw [List.nodup_append] at h
  exact ⟨h.1, h.2.1, fun i hi hm => h.2.2 i hi i hm rfl⟩

theorem Ms.back {X : List Nat} {w0 w w' : World} {mem A B A' : List Res} (h : Ms X w0 w mem) (is js : List Nat) (hd : decide (is ++ js).Nodup = true) (hp : picks mem is = some A) (hq : picks mem js = some B) (h' : Ms (feet A) w w' A') : Ms X w0 w' (A' ++ B) := by
  obtain ⟨d1, d2, d3⟩ := nodup_append (of_decide_eq_true hd)
  have hA := h.pick is (decide_eq_true d1) hp
  have hB := h.pick js (decide_eq_true d2) hq
  have hAB : ∀ R ∈ A, ∀ S ∈ B, ∀ b ∈ R.foot, b ∉ S.foot := by
    intro R hR S hS
    obtain ⟨i, hi, hRi⟩ := picks_mem hp R hR
    obtain ⟨j, hj, hSj⟩ := picks_mem hq S hS
    exact pairwise_get h.disj (fun e => d3 i hi (by rw [e]; exact hj)) hRi hSj
  have hBX : ∀ S ∈ B, ∀ b ∈ S.foot, b ∉ feet A := by
    intro S hS b hb hf
    obtain ⟨R, hR, hbR⟩ := List.mem_flatMap.1 hf
    exact hAB R hR S hS b hbR hb
  refine ⟨hA.frm.later h'.frm fun y hy hlt => ?_, fun R hR => ?_, fun R hR b hb => ?_, ?_⟩
  · obtain ⟨R, hR, hbR⟩ := List.mem_flatMap.1 hy
    exact (hA.foots R hR y hbR).1.resolve_right (by omega)
  · rcases List.mem_append.1 hR with hR | hR
    · exact h'.holds R hR
    · exact R.stable w w' (fun b hb => h'.frm.block b (hB.foots R hR b hb).2 (hBX R hR b hb)) (hB.holds R hR)
  · rcases List.mem_append.1 hR with hR | hR
    · refine ⟨?_, (h'.foots R hR b hb).2⟩
      rcases (h'.foots R hR b hb).1 with hf | hf
      · obtain ⟨S, hS, hbS⟩ := List.mem_flatMap.1 hf
        exact (hA.foots S hS b hbS).1
      · exact .inr (Nat.le_trans h.frm.size hf)
    · exact ⟨(hB.foots R hR b hb).1, Nat.lt_of_lt_of_le (hB.foots R hR b hb).2 h'.frm.size⟩
  · rw [List.pairwise_append]
    refine ⟨h'.disj, hB.disj, fun R hR S hS b hb hbS => ?_⟩
    rcases (h'.foots R hR b hb).1 with hf | hf
    · exact hBX S hS b hbS hf
    · have := (hB.foots S hS b hbS).2
      omega

/-- A slice that is read keeps while other blocks turn. -/
theorem SlR.frmX {α : Type} {C : Cd α} {X : List Nat} {w w' : World} {v : Value} {xs : List α} (h : SlR C w v xs) (hf : Frm X w w') (hd : xs ≠ [] → sblk v ∉ X) : SlR C w' v xs := by
  refine ⟨h.form, h.cap, fun j u hu => ?_⟩
  have h1 := h.cell j u hu
  have hx : xs ≠ [] := by rintro rfl; simp [Cd.cells] at hu
  rw [World.cell?_of_block (w := w) (hf.block _ (World.block_lt_of_cell? w _ h1) (hd hx))]
  exact h1

theorem SlR.blk_lt {α : Type} {C : Cd α} {w : World} {v : Value} {xs : List α} (h : SlR C w v xs) (hx : xs ≠ []) : sblk v < w.heap.size := by
  have hl : 0 < (C.cells xs).length := by
    rw [C.cells_length]
    exact Nat.mul_pos (List.length_pos_iff.2 hx) C.pos
  have h1 := h.cell 0 _ (List.getElem?_eq_getElem hl)
  exact World.block_lt_of_cell? w _ h1

theorem Ms.apart_arg {X : List Nat} {α : Type} {C : Cd α} {w0 w : World} {mem A : List Res} {v : Value} {xs : List α} (h : Ms X w0 w mem) (hs : SlR C w0 v xs) (hX : xs ≠ [] → sblk v ∉ X) (is : List Nat) (hp : picks mem is = some A) : xs ≠ [] → sblk v ∉ feet A := by
  intro hx hf
  obtain ⟨R, hR, hbR⟩ := List.mem_flatMap.1 hf
  obtain ⟨i, _, hi⟩ := picks_mem hp R hR
  rcases (h.foots R (List.mem_of_getElem? hi) _ hbR).1 with h1 | h1
  · exact hX hx h1
  · have := hs.blk_lt hx; omega

theorem rowR_blk {α : Type} {C : Cd α} {w : World} {v : Value} {xs : List α} (h : (rowR C v xs).holds w) (hx : xs ≠ []) : sblk v ∈ (rowR C v xs).foot := by
  obtain ⟨_, h⟩ := h
  rcases h with ⟨_, hn⟩ | ⟨g, cap, cur, rfl, _⟩
  · exact absurd (List.eq_nil_of_length_eq_zero hn) hx
  · simp [rowR, Value.ownBlock, sblk]

theorem Ms.apart_row {X : List Nat} {α : Type} {C : Cd α} {w0 w : World} {mem A : List Res} {v : Value} {xs : List α} (h : Ms X w0 w mem) (j : Nat) (hj : mem[j]? = some (rowR C v xs)) (is : List Nat) (hn : decide (j ∉ is) = true) (hp : picks mem is = some A) : xs ≠ [] → sblk v ∉ feet A := by
  intro hx hf
  obtain ⟨R, hR, hbR⟩ := List.mem_flatMap.1 hf
  obtain ⟨i, hi, hRi⟩ := picks_mem hp R hR
  have hne : j ≠ i := fun e => of_decide_eq_true hn (by rw [e]; exact hi)
  exact pairwise_get h.disj hne hj hRi _ (rowR_blk (h.get j hj) hx) hbR
end Go.K
/- A small library for walks, eleventh part: runs of a slice of one's own that are stored at once. -/
namespace Go.K
set_option linter.unusedSimpArgs false
open Go.RowKit

theorem sl_lo_n' {lo : Int} {m n : Nat} (c : 0 ≤ lo ∧ lo ≤ (m : Int) ∧ (m : Int) ≤ (n : Int)) : lo.toNat ≤ m ∧ m ≤ n := by omega
theorem sl_lo_i' {lo hi : Int} {n : Nat} (c : 0 ≤ lo ∧ lo ≤ hi ∧ hi ≤ (n : Int)) : lo.toNat ≤ hi.toNat ∧ hi.toNat ≤ n := by omega
theorem sl_0_n' {lo : Int} {m n : Nat} (c : 0 ≤ lo ∧ lo ≤ (m : Int) ∧ (m : Int) ≤ (n : Int)) : 0 ≤ m ∧ m ≤ n := by omega
theorem sl_0_i' {lo hi : Int} {n : Nat} (c : 0 ≤ lo ∧ lo ≤ hi ∧ hi ≤ (n : Int)) : 0 ≤ hi.toNat ∧ hi.toNat ≤ n := by omega

section
variable {X : List Nat} {P : Program} {ops : Array Oper} {Q : Exit → Act → World → Prop} {rest : List Oper} {a : Act} {w w0 : World} {n : Nat} {fr : List (Nat × Value)} {d : Nat} {ty : TypeId} {pos : String} {aft : Array Edge} {g : Option (Nat × Bool)} {x y z : Operand} {v : Value} {m p : Int} {T T' : TypeId} {mem : List Res}

/-- Cells stored into a slice of one's own. -/
theorem row_put {α : Type} {C : Cd α} {xs xs' : List α} {i o : Nat} (vs : List Value) (hM : Ms X w0 w mem) (hi : mem[i]? = some (rowR C v xs)) (hl : o + vs.length ≤ (C.cells xs).length) (h0 : 0 < vs.length) (h1 : ∀ u ∈ vs, u.oneCell' = true) (hxs : xs'.length = xs.length)
    (he : C.cells xs' = (C.cells xs).take o ++ vs ++ (C.cells xs).drop (o + vs.length)) :
    ∃ w', (storeCells ⟨sblk v, soff v + o, none⟩ vs).run P w = .ok () w' ∧ Ms X w0 w' (mem.set i (rowR C v xs')) := by
  obtain ⟨hlen, h⟩ : w.ownsRow 0 C.T C.s v xs.length (C.cells xs) := hM.get i hi
  rcases h with ⟨rfl, hn0⟩ | ⟨b, cap, cur, rfl, hb0, hg, hnc, hcm, hcs, htake⟩
  · rw [hn0] at hlen; omega
  · simp only [sblk, soff, Nat.zero_add]
    have hcl : (C.cells xs).length ≤ cur.toList.length := by rw [← htake, List.length_take]; exact Nat.min_le_right _ _
    have hr := run_storeCells_list (P := P) w b o C.T cur.toList vs (by simpa using hg) (by omega) h1
    have htk : cur.toList.take (C.cells xs).length = C.cells xs := by rw [hlen]; exact htake
    have hnew : (cur.toList.take o ++ vs ++ cur.toList.drop (o + vs.length)).take (xs.length * C.s) = C.cells xs' := by
      rw [he, ← htk, ← hlen]
      generalize hL : (C.cells xs).length = L at *
      rw [List.take_append, List.take_append, List.take_take, List.length_take, List.length_append, List.length_take, List.drop_take]
      have e1 : min o cur.toList.length = o := by omega
      rw [e1, List.take_of_length_le (l := vs) (by omega), Nat.min_comm L o, show L - (o + vs.length) = L - (o + vs.length) from rfl]
      rw [List.take_take]
    refine ⟨_, hr, hM.turn (R' := rowR C (.slice (some ⟨b, 0, none⟩) xs.length cap) xs') hi (frm_setRow w b (cur.toList.take o ++ vs ++ cur.toList.drop (o + vs.length)).toArray) ?_ (fun c hc => .inl hc)⟩
    refine ⟨by rw [C.cells_length], .inr ⟨b, cap, _, by rw [hxs], hb0, setRow_heap w b _ _ C.T _ hg, by rw [hxs]; exact hnc, hcm, ?_, by rw [hxs]; exact hnew⟩⟩
    rw [← hcs]
    simp only [List.size_toArray, List.length_append, List.length_take, List.length_drop, Array.length_toList]
    have : cur.toList.length = cur.size := by simp
    omega

/-- Elements ys put from place lo on. -/
def putAt {α : Type} (xs : List α) (lo : Nat) (ys : List α) : List α := xs.take lo ++ ys ++ xs.drop (lo + ys.length)
theorem putAt_length {α : Type} (xs : List α) (lo : Nat) (ys : List α) (h : lo + ys.length ≤ xs.length) : (putAt xs lo ys).length = xs.length := by
  unfold putAt; simp; omega
theorem Cd.cells_putAt {α : Type} (C : Cd α) (xs : List α) (lo : Nat) (ys : List α) : C.cells (putAt xs lo ys) = (C.cells xs).take (lo * C.s) ++ C.cells ys ++ (C.cells xs).drop (lo * C.s + (C.cells ys).length) := by
  unfold putAt
  rw [C.cells_append, C.cells_append, C.cells_take, C.cells_drop, Nat.add_mul, C.cells_length]

theorem zeros_cells {α : Type} (C : Cd α) (n : Nat) : (Builtin.zeroCells (C.v C.z).cells n).toList = C.cells (List.replicate n C.z) := by
  have hz : (C.v C.z).cells = (cat (C.ps C.z)).toArray := C.hv C.z
  have hzl : (cat (C.ps C.z)).length = C.s := by rw [cat_length, C.hs]
  have hpos := C.pos
  rw [hz]
  apply List.ext_getElem?
  intro j
  by_cases hj : j < n * C.s
  · have hq : j / C.s < n := by rw [Nat.div_lt_iff_lt_mul hpos]; exact hj
    have hrm : j % C.s < C.s := Nat.mod_lt _ hpos
    have h2 := C.cells_get (List.replicate n C.z) (j / C.s) C.z (j % C.s) (by simp [hq]) hrm
    rw [Nat.mul_comm, Nat.div_add_mod] at h2
    rw [h2]
    simp [Builtin.zeroCells, hj, hzl, getElem!_def, List.getElem?_eq_getElem (show j % C.s < (cat (C.ps C.z)).length by omega)]
  · rw [List.getElem?_eq_none (by simp [Builtin.zeroCells, hzl]; omega), List.getElem?_eq_none (by rw [C.cells_length, List.length_replicate]; omega)]

/-- What a run of a slice of one's own looks like. -/
theorem row_sub_form {α : Type} {C : Cd α} {xs : List α} {i lo hi : Nat} (hM : Ms X w0 w mem) (hi' : mem[i]? = some (rowR C v xs)) (h1 : lo ≤ hi) (h2 : hi ≤ xs.length) :
    (lo = hi ∧ ∃ b c, subv v lo hi C.s = .slice b 0 c) ∨ (lo < hi ∧ ∃ c, subv v lo hi C.s = .slice (some ⟨sblk v, soff v + lo * C.s, none⟩) (hi - lo) c) := by
  obtain ⟨hlen, h⟩ : w.ownsRow 0 C.T C.s v xs.length (C.cells xs) := hM.get i hi'
  rcases h with ⟨rfl, hn0⟩ | ⟨b, cap, cur, rfl, hb0, hg, hnc, hcm, hcs, htake⟩
  · exact .inl ⟨by omega, none, 0 - lo, by rw [show hi = 0 by omega]; simp [subv]⟩
  · rcases Nat.lt_or_ge lo hi with hlt | hge
    · refine .inr ⟨hlt, cap - lo, ?_⟩
      have hc : cap ≠ lo := by omega
      simp [subv, hc, sblk, soff, add_lit0]
    · have : lo = hi := by omega
      subst this
      exact .inl ⟨rfl, _, cap - lo, by simp only [subv, Nat.sub_self]; rfl⟩

/-- clear(s[lo:hi]) on a slice of one's own. -/
theorem s_clear {α : Type} {C : Cd α} {xs : List α} {i lo hi : Nat} (hC : CdOk P C) (hF : Fr n a fr) (hM : Ms X w0 w mem) (hw : want ops fr g = some true) (hx : ev fr x = some (subv v lo hi C.s)) (hi' : mem[i]? = some (rowR C v xs)) (h1 : lo ≤ hi ∧ hi ≤ xs.length) (hu : P.underlying T = some (.slice C.T))
    (k : ∀ a' w', Fr n a' fr → Ms X w0 w' (mem.set i (rowR C v (putAt xs lo (List.replicate (hi - lo) C.z)))) → wpList P ops Q rest a' w') : wpList P ops Q (⟨none, .call ⟨.builtin .clear, #[x], #[T]⟩, ty, pos, aft, g⟩ :: rest) a w := by
  obtain ⟨inf, hi0, his, hib, hiz⟩ := hC.info
  have hx' := hF.ev hx
  have hz : ∀ w, (zeroValue C.T).run P w = .ok (C.v C.z) w := fun w => by simp [zeroValue, typeInfo, hi0, hiz]
  have key : ∃ w', (execOp a.eval ⟨none, .call ⟨.builtin .clear, #[x], #[T]⟩, ty, pos, aft, g⟩).run P w = .ok (.value (.tuple #[])) w' ∧ Ms X w0 w' (mem.set i (rowR C v (putAt xs lo (List.replicate (hi - lo) C.z)))) := by
    rcases row_sub_form hM hi' h1.1 h1.2 with ⟨rfl, b, c, hv⟩ | ⟨hlt, c, hv⟩
    · refine ⟨w, ?_, ?_⟩
      · simp only [execOp, resolve, invoke, builtin, Sem.run_bind, Sem.run_pure, Result.andThen_ok, List.map_toArray, List.map_cons, List.map_nil, hx']
        rw [hv]
        cases b <;> simp [Builtin.clear_, run_underlying hu]
      · have : putAt xs lo (List.replicate (lo - lo) C.z) = xs := by simp [putAt]
        rw [this, set_self _ _ _ hi']
        exact hM
    · have hfit : lo * C.s + (C.cells (List.replicate (hi - lo) C.z)).length ≤ (C.cells xs).length := by
        rw [C.cells_length, C.cells_length, List.length_replicate, ← Nat.add_mul]
        exact Nat.mul_le_mul_right _ (by omega)
      have hp : 0 < (C.cells (List.replicate (hi - lo) C.z)).length := by
        rw [C.cells_length, List.length_replicate]
        exact Nat.mul_pos (by omega) C.pos
      obtain ⟨w', hr, hM'⟩ := row_put (P := P) (xs' := putAt xs lo (List.replicate (hi - lo) C.z)) (C.cells (List.replicate (hi - lo) C.z)) hM hi' hfit hp (C.cells_one _) (putAt_length _ _ _ (by rw [List.length_replicate]; omega)) (C.cells_putAt xs lo _)
      refine ⟨w', ?_, hM'⟩
      obtain ⟨q, hq⟩ : ∃ q, hi - lo = q + 1 := ⟨hi - lo - 1, by omega⟩
      simp only [execOp, resolve, invoke, builtin, Sem.run_bind, Sem.run_pure, Result.andThen_ok, List.map_toArray, List.map_cons, List.map_nil, hx']
      rw [hv, hq]
      rw [hq] at hr
      simp [Builtin.clear_, run_underlying hu, hz, zeros_cells, hr]
  obtain ⟨w', hr, hM'⟩ := key
  unfold wpList
  rw [if_pos (hF.want hw)]
  left
  unfold Oper.wp
  rw [hr, Oper.upon_value]
  exact k _ _ (hF.put0 _) hM'

/-- copy(s[lo:hi], t) on a slice of one's own. -/
theorem s_copy {α : Type} {C : Cd α} {xs ys : List α} {i lo hi : Nat} {u : Value} (hC : CdOk P C) (hF : Fr n a fr) (hM : Ms X w0 w mem) (hw : want ops fr g = some true) (hd : Nat.blt d n = true) (hx : ev fr x = some (subv v lo hi C.s)) (hy : ev fr y = some u) (hys : SlR C w u ys) (hi' : mem[i]? = some (rowR C v xs)) (h1 : lo ≤ hi ∧ hi ≤ xs.length) (hu : P.underlying T = some (.slice C.T))
    (k : ∀ a' w', Fr n a' ((d, .int .i64 ((min ys.length (hi - lo) : Nat) : Int)) :: fr) → Ms X w0 w' (mem.set i (rowR C v (putAt xs lo (ys.take (min ys.length (hi - lo)))))) → wpList P ops Q rest a' w') : wpList P ops Q (⟨some d, .call ⟨.builtin .copy, #[x, y], #[T, T]⟩, ty, pos, aft, g⟩ :: rest) a w := by
  obtain ⟨inf, hi0, his, hib, hiz⟩ := hC.info
  have hx' := hF.ev hx
  have hy' := hF.ev hy
  obtain ⟨ua, hu1, hu2⟩ := hys.form
  have hcell := hys.cell
  have hmin : Nat.min ys.length (hi - lo) = min ys.length (hi - lo) := rfl
  generalize hmm : min ys.length (hi - lo) = mm at *
  have hml : (ys.take mm).length = mm := by rw [List.length_take]; omega
  have hfc : (Builtin.firstCells C.s mm u).run P w = .ok (C.cells (ys.take mm)).toArray w := by
    by_cases hy0 : ys = []
    · subst hy0
      have : mm = 0 := by simp at hmm; omega
      subst this
      rw [hu1]
      cases ua <;> simp [Builtin.firstCells, loadCells, loadCellsFrom, Cd.cells]
    · have hua := hu2 hy0
      have := run_firstCells_some (P := P) w C.s mm ⟨sblk u, soff u, none⟩ ys.length (scap u) (C.cells (ys.take mm)) (by rw [C.cells_length, hml]) (fun j x hx => by
        rw [add_lit0]
        refine hcell j x ?_
        rw [C.cells_take, List.getElem?_take] at hx
        split at hx
        · exact hx
        · cases hx)
      rw [hu1, hua]
      exact this
  have hln : (Builtin.lenOf u).run P w = .ok ys.length w := by rw [hu1]; simp [Builtin.lenOf]
  have hsz : ∀ w, (sizeOf C.T).run P w = .ok C.s w := fun w => by simp [sizeOf, typeInfo, hi0, his]
  have key : ∃ w', (execOp a.eval ⟨some d, .call ⟨.builtin .copy, #[x, y], #[T, T]⟩, ty, pos, aft, g⟩).run P w = .ok (.value (.int .i64 (mm : Int))) w' ∧ Ms X w0 w' (mem.set i (rowR C v (putAt xs lo (ys.take mm)))) := by
    rcases row_sub_form hM hi' h1.1 h1.2 with ⟨rfl, b, c, hv⟩ | ⟨hlt, c, hv⟩
    · refine ⟨w, ?_, ?_⟩
      · have hmz : mm = 0 := by omega
        subst hmz
        have hmin' : Nat.min ys.length 0 = 0 := by simp [Nat.min_def]
        simp only [execOp, resolve, invoke, builtin, Sem.run_bind, Sem.run_pure, Result.andThen_ok, List.map_toArray, List.map_cons, List.map_nil, hx', hy']
        rw [hv]
        simp only [List.take_zero] at hfc
        have hce : C.cells [] = [] := rfl
        rw [hce] at hfc
        cases b <;> simp [Builtin.copy_, run_underlying hu, hln, hsz, hmin', hfc, storeCells, goInt]
      · have hmz : mm = 0 := by omega
        subst hmz
        have : putAt xs lo (ys.take 0) = xs := by simp [putAt]
        rw [this, set_self _ _ _ hi']
        exact hM
    · by_cases hm0 : mm = 0
      · subst hm0
        refine ⟨w, ?_, ?_⟩
        · simp only [execOp, resolve, invoke, builtin, Sem.run_bind, Sem.run_pure, Result.andThen_ok, List.map_toArray, List.map_cons, List.map_nil, hx', hy']
          rw [hv]
          simp only [List.take_zero] at hfc
          have hce : C.cells [] = [] := rfl
          rw [hce] at hfc
          simp [Builtin.copy_, run_underlying hu, hln, hsz, hmin, hfc, storeCells, goInt]
        · have : putAt xs lo (ys.take 0) = xs := by simp [putAt]
          rw [this, set_self _ _ _ hi']
          exact hM
      · have hfit : lo * C.s + (C.cells (ys.take mm)).length ≤ (C.cells xs).length := by
          rw [C.cells_length, C.cells_length, hml, ← Nat.add_mul]
          exact Nat.mul_le_mul_right _ (by omega)
        have hp : 0 < (C.cells (ys.take mm)).length := by
          rw [C.cells_length, hml]
          exact Nat.mul_pos (by omega) C.pos
        obtain ⟨w', hr, hM'⟩ := row_put (P := P) (xs' := putAt xs lo (ys.take mm)) (C.cells (ys.take mm)) hM hi' hfit hp (C.cells_one _) (putAt_length _ _ _ (by rw [hml]; omega)) (C.cells_putAt xs lo _)
        refine ⟨w', ?_, hM'⟩
        simp only [execOp, resolve, invoke, builtin, Sem.run_bind, Sem.run_pure, Result.andThen_ok, List.map_toArray, List.map_cons, List.map_nil, hx', hy']
        rw [hv]
        simp [Builtin.copy_, run_underlying hu, hln, hsz, hmin, hfc, hr, goInt]
  obtain ⟨w', hr, hM'⟩ := key
  exact s_valw (d := d) (w' := w') (v := .int .i64 (mm : Int)) hF hw rfl hd hr fun a' hF' => k a' w' hF' hM'
end

theorem row_ev {α : Type} {C : Cd α} {w : World} {v : Value} {xs : List α} {o : Option Value} (h : (rowR C v xs).holds w) (e : o = some v) : o = some (subv v 0 xs.length C.s) := by
  rw [e]
  congr 1
  obtain ⟨_, hh⟩ := h
  rcases hh with ⟨rfl, hn0⟩ | ⟨b, cap, cur, rfl, _⟩
  · simp [subv, hn0]
  · by_cases hc : cap = 0
    · simp [subv, hc]
    · simp [subv, hc, add_lit0]

/-- A head of a slice of one's own. -/
theorem Ms.cut {X : List Nat} {α : Type} {C : Cd α} {w0 w : World} {mem : List Res} {v : Value} {xs : List α} (hM : Ms X w0 w mem) (i hi : Nat) (hi' : mem[i]? = some (rowR C v xs)) (h : hi ≤ xs.length) : Ms X w0 w (mem.set i (rowR C (subv v 0 hi C.s) ((xs.take hi).drop 0))) := by
  obtain ⟨hlen, hh⟩ : w.ownsRow 0 C.T C.s v xs.length (C.cells xs) := hM.get i hi'
  have hl : ((xs.take hi).drop 0).length = hi := by simp; omega
  refine hM.turn (R' := rowR C (subv v 0 hi C.s) ((xs.take hi).drop 0)) hi' (Frm.refl _ _) ?_ ?_
  · rcases hh with ⟨rfl, hn0⟩ | ⟨b, cap, cur, rfl, hb0, hg, hnc, hcm, hcs, htake⟩
    · have : hi = 0 := by omega
      subst this
      exact ⟨by rw [C.cells_length], .inl ⟨by simp [subv], by simp⟩⟩
    · refine ⟨by rw [C.cells_length], .inr ⟨b, cap, cur, ?_, hb0, hg, by rw [hl]; omega, hcm, hcs, ?_⟩⟩
      · rw [hl]
        simp only [subv, Nat.zero_mul, Nat.sub_zero]
        by_cases hc : cap = 0
        · simp [hc]
        · simp [hc, add_lit0]
      · rw [hl, List.drop_zero, C.cells_take, ← htake, List.take_take]
        congr 1
        have := Nat.mul_le_mul_right C.s h
        omega
  · intro b hb
    rcases hh with ⟨rfl, hn0⟩ | ⟨b', cap, cur, rfl, _⟩
    · simp [rowR, subv, Value.ownBlock] at hb
    · left
      simp only [rowR, subv, Nat.zero_mul] at hb ⊢
      by_cases hc : cap = 0
      · simpa [hc, Value.ownBlock] using hb
      · simpa [hc, Value.ownBlock, add_lit0] using hb
end Go.K
/- A small library for walks, twelfth part: slices of slices. -/
namespace Go.K
set_option linter.unusedSimpArgs false
open Go.RowKit

abbrev nilv : Value := .slice none 0 0
/-- Slices as elements. -/
def cdV (T : Nat) : Cd Value := ⟨T, 1, 24, fun x => [Pt.any x], fun x => bif x.oneCell' then x else .bool false, nilv, fun _ => rfl, fun x => by
  cases h : x.oneCell' with
  | true => rw [cond_true]; exact any_box h
  | false =>
    rw [cond_false]
    apply Array.ext'
    simp [Value.cells, cat, Pt.any, h], by decide⟩
theorem cdV_T (T : Nat) : (cdV T).T = T := rfl
theorem cdV_s (T : Nat) : (cdV T).s = 1 := rfl
theorem cdV_v (T : Nat) {x : Value} (h : x.oneCell' = true) : (cdV T).v x = x := by show (bif x.oneCell' then x else .bool false) = x; rw [h]; rfl

/-- In w, the value v reads as the slice of slices xss; vs are the inner slices' values. -/
structure NeR {α : Type} (C : Cd α) (T : Nat) (w : World) (v : Value) (vs : List Value) (xss : List (List α)) : Prop where
  out : SlR (cdV T) w v vs
  len : vs.length = xss.length
  inn : ∀ (i : Nat) u xs, vs[i]? = some u → xss[i]? = some xs → SlR C w u xs

section
variable {α : Type} {C : Cd α} {T : Nat} {w w' : World} {v : Value} {vs : List Value} {xss : List (List α)}
theorem NeR.toF (h : NeR C T w v vs xss) : SlF v xss.length := h.len ▸ h.out.toF
theorem NeR.frm (h : NeR C T w v vs xss) (hf : Frm [] w w') : NeR C T w' v vs xss := ⟨h.out.frm hf, h.len, fun i u xs h1 h2 => (h.inn i u xs h1 h2).frm hf⟩
theorem NeR.at (h : NeR C T w v vs xss) {m : Int} (c : 0 ≤ m ∧ m < xss.length) : vs[m.toNat]? = some (vs.getD m.toNat nilv) := by
  have := h.len
  exact getD_some c.1 (by omega)
theorem NeR.get (h : NeR C T w v vs xss) {m : Int} (c : 0 ≤ m ∧ m < xss.length) : SlR C w (vs.getD m.toNat nilv) (xss.getD m.toNat []) :=
  h.inn _ _ _ (h.at c) (getD_some c.1 c.2)
theorem NeR.nil (C : Cd α) (T : Nat) (w : World) (c : Nat) (a : Option Addr) : NeR C T w (.slice a 0 c) [] [] := ⟨SlR.nil _ w c a, rfl, fun i u xs h _ => by simp at h⟩
end

def blks (v : Value) : List Nat := v.ownBlock.toList
/-- A slice of slices of one's own. -/
def nestR {α : Type} (C : Cd α) (T : Nat) (v : Value) (vs : List Value) (xss : List (List α)) : Res where
  foot := blks v ++ vs.flatMap blks
  holds := fun w => (rowR (cdV T) v vs).holds w ∧ vs.length = xss.length ∧ (∀ (i : Nat) u xs, vs[i]? = some u → xss[i]? = some xs → (rowR C u xs).holds w) ∧ (blks v ++ vs.flatMap blks).Nodup
  stable := fun w w' h hh => ⟨(rowR (cdV T) v vs).stable w w' (fun b hb => h b (List.mem_append_left _ hb)) hh.1, hh.2.1, fun i u xs h1 h2 => (rowR C u xs).stable w w' (fun b hb => h b (List.mem_append_right _ (List.mem_flatMap.2 ⟨u, List.mem_of_getElem? h1, hb⟩))) (hh.2.2.1 i u xs h1 h2), hh.2.2.2⟩

theorem rowR_one {α : Type} {C : Cd α} {w : World} {u : Value} {xs : List α} (h : (rowR C u xs).holds w) : u.oneCell' = true := (rowR_sl h).toF.one

theorem nestR_ne {α : Type} {C : Cd α} {T : Nat} {w : World} {v : Value} {vs : List Value} {xss : List (List α)} (h : (nestR C T v vs xss).holds w) : NeR C T w v vs xss :=
  ⟨rowR_sl h.1, h.2.1, fun i u xs h1 h2 => rowR_sl (h.2.2.1 i u xs h1 h2)⟩

section
variable {X : List Nat} {P : Program} {ops : Array Oper} {Q : Exit → Act → World → Prop} {rest : List Oper} {a : Act} {w w0 : World} {n : Nat} {fr : List (Nat × Value)} {d : Nat} {ty : TypeId} {pos : String} {aft : Array Edge} {g : Option (Nat × Bool)} {x y z : Operand} {v : Value} {m p : Int} {T T' TV : TypeId} {mem : List Res} {α : Type} {C : Cd α}

theorem Ms.ne (h : Ms X w0 w mem) (i : Nat) {vs : List Value} {xss : List (List α)} (hi : mem[i]? = some (nestR C T v vs xss)) : NeR C T w v vs xss := nestR_ne (h.get i hi)

theorem Ms.nilNest (C : Cd α) (T : Nat) (hM : Ms X w0 w mem) : Ms X w0 w (nestR C T nilv [] [] :: mem) :=
  hM.add (Frm.refl _ _) (nestR C T nilv [] []) ⟨⟨by simp [Cd.cells], .inl ⟨rfl, rfl⟩⟩, rfl, fun i u xs h _ => by simp at h, by simp [blks, Value.ownBlock]⟩ (by simp [nestR, blks, Value.ownBlock])

theorem nodup_toList {β : Type} (o : Option β) : o.toList.Nodup := by cases o <;> simp

/-- A slice is given away into a new slice of slices. -/
theorem s_bnest {xs : List α} {i : Nat} {o : Operand} {u : Value} (hC : CdOk P (cdV T)) (hF : Fr n a fr) (hM : Ms X w0 w mem) (hw : want ops fr g = some true) (hd : Nat.blt d n = true) (ho : ev fr o = some u) (hi : mem[i]? = some (rowR C u xs)) (hu : P.underlying T' = some (.slice T))
    (k : ∀ a' w' v, Fr n a' ((d, v) :: fr) → Ms X w0 w' (mem.set i (nestR C T v [u] [xs])) → wpList P ops Q rest a' w') : wpList P ops Q (⟨some d, .buildSlice T' 1 #[(0, o)], ty, pos, aft, g⟩ :: rest) a w := by
  have hone := rowR_one (hM.get i hi)
  refine s_bsl (C := cdV T) (l := [(0, o)]) [u] hC hF hM hw hd ?_ rfl hu rfl fun a' w' v hF' hM' => k a' w' v hF' ?_
  · simp only [evp, ho, List.map_cons, List.map_nil, enumV]
    rw [cdV_v T hone]
  · have hi' : (rowR (cdV T) v [u] :: mem)[i + 1]? = some (rowR C u xs) := hi
    have h0 : (rowR (cdV T) v [u] :: mem)[0]? = some (rowR (cdV T) v [u]) := rfl
    have hdj : ∀ b ∈ blks v, b ∉ blks u := pairwise_get hM'.disj (i := 0) (j := i + 1) (by omega) h0 hi'
    have hv := hM'.get 0 h0
    have hr := hM'.get (i + 1) hi'
    have hil : i < mem.length := (List.getElem?_eq_some_iff.1 hi).1
    have hsplit : ∀ R ∈ mem.set i (nestR C T v [u] [xs]), R = nestR C T v [u] [xs] ∨ (R ∈ mem ∧ (∀ b ∈ R.foot, b ∉ blks u) ∧ (∀ b ∈ R.foot, b ∉ blks v)) := by
      intro R hR
      obtain ⟨j, hj, he⟩ := List.mem_iff_getElem.1 hR
      rw [List.length_set] at hj
      rw [List.getElem_set] at he
      split at he
      · exact .inl he.symm
      · rename_i hne
        subst he
        refine .inr ⟨List.getElem_mem hj, fun b hb hb' => ?_, fun b hb hb' => ?_⟩
        · exact pairwise_get hM.disj (i := j) (j := i) (fun e => hne e.symm) (List.getElem?_eq_getElem hj) hi b hb hb'
        · exact pairwise_get hM'.disj (i := 0) (j := j + 1) (by omega) h0 (by simp [hj]) b hb' hb
    refine ⟨hM'.frm, fun R hR => ?_, fun R hR b hb => ?_, ?_⟩
    · rcases hsplit R hR with rfl | ⟨h1, _⟩
      · refine ⟨hv, rfl, fun j u' xs' h1 h2 => ?_, ?_⟩
        · cases j with
          | zero => simp at h1 h2; subst h1 h2; exact hr
          | succ j => simp at h1
        · simp only [List.flatMap_cons, List.flatMap_nil, List.append_nil]
          rw [List.nodup_append]
          exact ⟨nodup_toList _, nodup_toList _, fun b hb c hc e => hdj b hb (e ▸ hc)⟩
      · exact hM'.holds R (List.mem_cons_of_mem _ h1)
    · rcases hsplit R hR with rfl | ⟨h1, _⟩
      · simp only [nestR, List.flatMap_cons, List.flatMap_nil, List.append_nil, List.mem_append] at hb
        rcases hb with hb | hb
        · exact hM'.foots _ (List.mem_cons_self) b hb
        · exact hM'.foots _ (List.mem_of_getElem? hi') b hb
      · exact hM'.foots R (List.mem_cons_of_mem _ h1) b hb
    · rw [List.pairwise_iff_getElem]
      intro j l hj hl hjl b hb hb'
      rw [List.length_set] at hj hl
      rw [List.getElem_set] at hb hb'
      have hfree : ∀ q (hq : q < mem.length), q ≠ i → ∀ b ∈ (mem[q]).foot, b ∉ (nestR C T v [u] [xs]).foot := by
        intro q hq hqi b hb hb'
        have hR : mem[q] ∈ mem.set i (nestR C T v [u] [xs]) := by
          refine List.mem_iff_getElem.2 ⟨q, by rw [List.length_set]; exact hq, ?_⟩
          rw [List.getElem_set, if_neg (fun e => hqi e.symm)]
        simp only [nestR, List.flatMap_cons, List.flatMap_nil, List.append_nil, List.mem_append] at hb'
        rcases hb' with hb' | hb'
        · exact pairwise_get hM'.disj (i := 0) (j := q + 1) (by omega) h0 (by simp [hq]) b hb' hb
        · exact pairwise_get hM.disj hqi (List.getElem?_eq_getElem hq) hi b hb hb'
      split at hb
      · split at hb'
        · omega
        · rename_i h1 h2; exact hfree l hl (fun e => h2 e.symm) b hb' hb
      · split at hb'
        · rename_i h1 h2; exact hfree j hj (fun e => h1 e.symm) b hb hb'
        · exact List.pairwise_iff_getElem.1 hM.disj j l hj hl hjl b hb hb'

theorem nodup_append3 {β : Type} {a b c d : List β} (h1 : (a ++ b).Nodup) (h2 : (c ++ d).Nodup) (hd : ∀ x ∈ a ++ b, x ∉ c ++ d) : (a ++ (b ++ d)).Nodup := by
  rw [List.nodup_append] at h1 h2 ⊢
  refine ⟨h1.1, ?_, fun x hx y hy e => ?_⟩
  · rw [List.nodup_append]
    refine ⟨h1.2.1, h2.2.1, fun x hx y hy e => ?_⟩
    subst e
    exact hd x (List.mem_append_right _ hx) (List.mem_append_right _ hy)
  · subst e
    rcases List.mem_append.1 hy with hy | hy
    · exact h1.2.2 x hx x hy rfl
    · exact hd x (List.mem_append_left _ hx) (List.mem_append_right _ hy)

/-- append of one slice of slices behind another one, whose inner slices move. -/
theorem s_nappend {u : Value} {vs us : List Value} {xss yss : List (List α)} (hC : CdOk P (cdV T)) (hF : Fr n a fr) (i j : Nat) (js : List Nat) (hM : Ms X w0 w mem) (hw : want ops fr g = some true) (hd : Nat.blt d n = true) (hx : ev fr x = some v) (hy : ev fr y = some u)
    (hi : mem[i]? = some (nestR C T v vs xss)) (hj : mem[j]? = some (nestR C T u us yss)) {rst : List Res} (hjs : picks mem js = some rst) (hnd : decide (i :: j :: js).Nodup = true) (hu : P.underlying T' = some (.slice T)) (hfew : xss.length + yss.length ≤ 1073741824)
    (k : ∀ a' w' v', Fr n a' ((d, v') :: fr) → Ms X w0 w' (nestR C T v' (vs ++ us) (xss ++ yss) :: rst) → wpList P ops Q rest a' w') : wpList P ops Q (⟨some d, .call ⟨.builtin .append, #[x, y], #[T', T']⟩, ty, pos, aft, g⟩ :: rest) a w := by
  have hnd' := of_decide_eq_true hnd
  simp only [List.nodup_cons, List.mem_cons, not_or] at hnd'
  obtain ⟨⟨hij, hijs⟩, hjjs, hjsn⟩ := hnd'
  obtain ⟨v1, v2, v3, v4⟩ := hM.get i hi
  obtain ⟨u1, u2, u3, u4⟩ := hM.get j hj
  have hdij := pairwise_get hM.disj hij hi hj
  obtain ⟨v', w', hr, h1, h2, h3⟩ := run_append (P := P) (T := T') (ty := ty) hC v1 (rowR_sl u1) hu (by rw [v2, u2]; exact hfew)
  refine s_valw (d := d) (w' := w') (v := v') hF hw rfl hd ?_ fun a' hF' => k a' w' v' hF' ?_
  · simp only [execOp, resolve, invoke, builtin, Sem.run_bind, Sem.run_pure, Result.andThen_ok, List.map_toArray, List.map_cons, List.map_nil, hF.ev hx, hF.ev hy, hr]
  · have hrst : ∀ R ∈ rst, R ∈ mem ∧ (∀ b ∈ R.foot, b ∉ (nestR C T v vs xss).foot) ∧ (∀ b ∈ R.foot, b ∉ (nestR C T u us yss).foot) := by
      intro R hR
      obtain ⟨q, hq, hqR⟩ := picks_mem hjs R hR
      exact ⟨List.mem_of_getElem? hqR, pairwise_get hM.disj (i := q) (j := i) (fun e => hijs (by rw [← e]; exact hq)) hqR hi, pairwise_get hM.disj (i := q) (j := j) (fun e => hjjs (by rw [← e]; exact hq)) hqR hj⟩
    have inV : ∀ b ∈ blks v, b ∈ (nestR C T v vs xss).foot := fun b hb => List.mem_append_left _ hb
    have outV : ∀ (q : Nat) u', vs[q]? = some u' → ∀ b ∈ blks u', b ∉ blks v := by
      intro q u' hq b hb hbv
      have := (List.nodup_append.1 v4).2.2 b hbv b (List.mem_flatMap.2 ⟨u', List.mem_of_getElem? hq, hb⟩)
      exact this rfl
    have outU : ∀ (q : Nat) u', us[q]? = some u' → ∀ b ∈ blks u', b ∉ blks v := by
      intro q u' hq b hb hbv
      exact hdij b (inV b hbv) (List.mem_append_right _ (List.mem_flatMap.2 ⟨u', List.mem_of_getElem? hq, hb⟩))
    have ltV : ∀ b ∈ (nestR C T v vs xss).foot, b < w.heap.size := fun b hb => (hM.foots _ (List.mem_of_getElem? hi) b hb).2
    have ltU : ∀ b ∈ (nestR C T u us yss).foot, b < w.heap.size := fun b hb => (hM.foots _ (List.mem_of_getElem? hj) b hb).2
    have inX : ∀ b ∈ (nestR C T v' (vs ++ us) (xss ++ yss)).foot, b ∈ blks v ∨ (w.heap.size ≤ b ∧ b < w'.heap.size) ∨ b ∈ vs.flatMap blks ∨ b ∈ us.flatMap blks := by
      intro b hb
      simp only [nestR, List.mem_append, List.flatMap_append] at hb
      rcases hb with hb | hb | hb
      · rcases h3 b hb with h | h
        · exact .inl h
        · exact .inr (.inl h)
      · exact .inr (.inr (.inl hb))
      · exact .inr (.inr (.inr hb))
    refine ⟨hM.frm.later h1 (fun y hy hlt => (hM.foots _ (List.mem_of_getElem? hi) y (inV y hy)).1.resolve_right (by omega)), fun R hR => ?_, fun R hR b hb => ?_, ?_⟩
    · rcases List.mem_cons.1 hR with rfl | hR
      · refine ⟨h2, by rw [List.length_append, List.length_append, v2, u2], fun q u' ys hq hq' => ?_, ?_⟩
        · rcases Nat.lt_or_ge q vs.length with hlt | hge
          · rw [List.getElem?_append_left hlt] at hq
            rw [List.getElem?_append_left (by omega)] at hq'
            exact (rowR C u' ys).stable w w' (fun b hb => h1.block b (ltV b (List.mem_append_right _ (List.mem_flatMap.2 ⟨u', List.mem_of_getElem? hq, hb⟩))) (outV q u' hq b hb)) (v3 q u' ys hq hq')
          · rw [List.getElem?_append_right hge] at hq
            rw [List.getElem?_append_right (by omega), ← v2] at hq'
            exact (rowR C u' ys).stable w w' (fun b hb => h1.block b (ltU b (List.mem_append_right _ (List.mem_flatMap.2 ⟨u', List.mem_of_getElem? hq, hb⟩))) (outU _ u' hq b hb)) (u3 _ u' ys hq hq')
        · rw [List.flatMap_append]
          have hb' : ∀ b ∈ blks v', b ∈ blks v ∨ w.heap.size ≤ b := fun b hb => (h3 b hb).imp id (fun h => h.1)
          rw [List.nodup_append]
          refine ⟨nodup_toList _, ?_, fun b hb c hc e => ?_⟩
          · rw [List.nodup_append]
            exact ⟨(List.nodup_append.1 v4).2.1, (List.nodup_append.1 u4).2.1, fun b hb c hc e => hdij b (List.mem_append_right _ hb) (List.mem_append_right _ (e ▸ hc))⟩
          · subst e
            rcases hb' b hb with h | h
            · rcases List.mem_append.1 hc with hc | hc
              · exact (List.nodup_append.1 v4).2.2 b h b hc rfl
              · exact hdij b (inV b h) (List.mem_append_right _ hc)
            · rcases List.mem_append.1 hc with hc | hc
              · have := ltV b (List.mem_append_right _ hc); omega
              · have := ltU b (List.mem_append_right _ hc); omega
      · obtain ⟨m1, m2, _⟩ := hrst R hR
        exact R.stable w w' (fun b hb => h1.block b (hM.foots R m1 b hb).2 (fun hv => m2 b hb (inV b hv))) (hM.holds R m1)
    · rcases List.mem_cons.1 hR with rfl | hR
      · rcases inX b hb with h | h | h | h
        · have := hM.foots _ (List.mem_of_getElem? hi) b (inV b h)
          exact ⟨this.1, Nat.lt_of_lt_of_le this.2 h1.size⟩
        · exact ⟨.inr (Nat.le_trans hM.frm.size h.1), h.2⟩
        · have := hM.foots _ (List.mem_of_getElem? hi) b (List.mem_append_right _ h)
          exact ⟨this.1, Nat.lt_of_lt_of_le this.2 h1.size⟩
        · have := hM.foots _ (List.mem_of_getElem? hj) b (List.mem_append_right _ h)
          exact ⟨this.1, Nat.lt_of_lt_of_le this.2 h1.size⟩
      · obtain ⟨m1, _, _⟩ := hrst R hR
        exact ⟨(hM.foots R m1 b hb).1, Nat.lt_of_lt_of_le (hM.foots R m1 b hb).2 h1.size⟩
    · refine List.Pairwise.cons (fun R hR b hb hbR => ?_) (picks_disj hM.disj hjsn hjs)
      obtain ⟨m1, m2, m3⟩ := hrst R hR
      rcases inX b hb with h | h | h | h
      · exact m2 b hbR (inV b h)
      · have := (hM.foots R m1 b hbR).2; omega
      · exact m2 b hbR (List.mem_append_right _ h)
      · exact m3 b hbR (List.mem_append_right _ h)
end
end Go.K
namespace Go.K
section
variable {X : List Nat} {P : Program} {ops : Array Oper} {Q : Exit → Act → World → Prop} {rest : List Oper} {a : Act} {w w0 : World} {n : Nat} {fr : List (Nat × Value)} {ty : TypeId} {pos : String} {aft : Array Edge} {g : Option (Nat × Bool)} {x y : Operand} {v : Value} {m p : Int} {T TE : TypeId} {mem : List Res} {α : Type} {C : Cd α}

theorem getElem?_inj_of_nodup {vs : List Value} (h : (vs.flatMap blks).Nodup) {i j : Nat} {u t : Value} (hij : i ≠ j) (hi : vs[i]? = some u) (hj : vs[j]? = some t) : ∀ b ∈ blks u, b ∉ blks t := by
  induction vs generalizing i j with
  | nil => simp at hi
  | cons r vs ih =>
    rw [List.flatMap_cons, List.nodup_append] at h
    intro b hb hb'
    cases i with
    | zero =>
      cases j with
      | zero => exact hij rfl
      | succ j =>
        simp at hi hj
        subst hi
        exact h.2.2 b hb b (List.mem_flatMap.2 ⟨t, List.mem_of_getElem? hj, hb'⟩) rfl
    | succ i =>
      cases j with
      | zero =>
        simp at hi hj
        subst hj
        exact h.2.2 b hb' b (List.mem_flatMap.2 ⟨u, List.mem_of_getElem? hi, hb⟩) rfl
      | succ j =>
        simp at hi hj
        exact ih h.2.1 (fun e => hij (by rw [e])) hi hj b hb hb'

theorem Ms.inner {w' : World} {i k : Nat} {u : Value} {vs : List Value} {xss : List (List α)} {xs xs' : List α} (hM : Ms X w0 w mem) (hi : mem[i]? = some (nestR C T v vs xss)) (hk : vs[k]? = some u) (hx : xss[k]? = some xs) (hf : Frm (blks u) w w') (hr : (rowR C u xs').holds w') : Ms X w0 w' (mem.set i (nestR C T v vs (xss.set k xs'))) := by
  have hin : ∀ b ∈ blks u, b ∈ (nestR C T v vs xss).foot := fun b hb => List.mem_append_right _ (List.mem_flatMap.2 ⟨u, List.mem_of_getElem? hk, hb⟩)
  obtain ⟨v1, v2, v3, v4⟩ := hM.get i hi
  have hf' : Frm (nestR C T v vs xss).foot w w' := ⟨hf.os, hf.tape, hf.output, hf.size, fun b hb hx' => hf.block b hb (fun h => hx' (hin b h)), hf.drawn⟩
  have lt : ∀ b ∈ (nestR C T v vs xss).foot, b < w.heap.size := fun b hb => (hM.foots _ (List.mem_of_getElem? hi) b hb).2
  refine hM.turn (R' := nestR C T v vs (xss.set k xs')) hi hf' ⟨?_, by rw [List.length_set]; exact v2, fun q u' ys hq hq' => ?_, v4⟩ (fun b hb => .inl hb)
  · exact (rowR (cdV T) v vs).stable w w' (fun b hb => hf.block b (lt b (List.mem_append_left _ hb)) (fun h => (List.nodup_append.1 v4).2.2 b hb b (List.mem_flatMap.2 ⟨u, List.mem_of_getElem? hk, h⟩) rfl)) v1
  · by_cases hqk : q = k
    · subst hqk
      rw [hk] at hq
      cases hq
      rw [List.getElem?_set_self (List.getElem?_eq_some_iff.1 hx).1] at hq'
      cases hq'
      exact hr
    · rw [List.getElem?_set_ne (fun e => hqk e.symm)] at hq'
      exact (rowR C u' ys).stable w w' (fun b hb => hf.block b (lt b (List.mem_append_right _ (List.mem_flatMap.2 ⟨u', List.mem_of_getElem? hq, hb⟩))) (getElem?_inj_of_nodup (List.nodup_append.1 v4).2.1 hqk hq hk b hb)) (v3 q u' ys hq hq')

/-- An element of an inner slice of one's own is stored. -/
theorem s_stn {i : Nat} {vs : List Value} {xss : List (List α)} (e' : α) {u : Value} (hF : Fr n a fr) (hM : Ms X w0 w mem) (hw : want ops fr g = some true) (hx : ev fr x = some (pt (sblk (vs.getD m.toNat nilv)) (soff (vs.getD m.toNat nilv) + p.toNat * C.s))) (hy : ev fr y = some u) (hv : u = C.v e') (hi : mem[i]? = some (nestR C T v vs xss)) (c : 0 ≤ m ∧ m < xss.length) (c2 : 0 ≤ p ∧ p < (xss.getD m.toNat []).length) (hs : ∀ w, (sizeOf TE).run P w = .ok C.s w)
    (kk : ∀ a' w', Fr n a' fr → Ms X w0 w' (mem.set i (nestR C T v vs (xss.set m.toNat ((xss.getD m.toNat []).set p.toNat e')))) → wpList P ops Q rest a' w') : wpList P ops Q (⟨none, .store TE x y, ty, pos, aft, g⟩ :: rest) a w := by
  have hne := hM.ne i hi
  have hat := hne.at c
  have hxs : xss[m.toNat]? = some (xss.getD m.toNat []) := getD_some c.1 c.2
  have hrow : (rowR C (vs.getD m.toNat nilv) (xss.getD m.toNat [])).holds w := (hM.get i hi).2.2.1 _ _ _ hat hxs
  generalize vs.getD m.toNat nilv = t at *
  generalize hq : xss.getD m.toNat [] = xs at *
  have hM1 : Ms (blks t) w w [rowR C t xs] := Ms.start1 w (rowR C t xs) hrow fun b hb => (World.ownsRow.lt hrow b (by simpa [rowR] using hb)).2
  have hlt : p.toNat < xs.length := by omega
  have hl : (cat (C.ps e')).length = C.s := by rw [cat_length, C.hs]
  have hfit : p.toNat * C.s + C.s ≤ (C.cells xs).length := by rw [C.cells_length, ← Nat.succ_mul]; exact Nat.mul_le_mul_right _ hlt
  obtain ⟨w', hr, hM'⟩ := row_store (P := P) (T := TE) (ty := ty) (pos := pos) (aft := aft) (g := g) (d' := none) (i := 0) (xs' := xs.set p.toNat e') (cat (C.ps e')) hM1 rfl (by rw [hl]; exact hfit) (by rw [hl]; exact C.pos) (cat_one _) (by simp)
    (by rw [hl]; exact C.cells_set xs _ e' hlt) hF hy (by rw [hv, C.hv]) hx hs hl
  exact s_nov hF hw rfl hr fun a' hF' => kk a' w' hF' (hM.inner hi hat hxs hM'.frm (hM'.get 0 rfl))
end
end Go.K
namespace Go.K
section
variable {X : List Nat} {P : Program} {ops : Array Oper} {Q : Exit → Act → World → Prop} {rest : List Oper} {a : Act} {w w0 : World} {n : Nat} {fr : List (Nat × Value)} {d : Nat} {ty : TypeId} {pos : String} {aft : Array Edge} {g : Option (Nat × Bool)} {T T' : TypeId} {mem : List Res} {α : Type} {C : Cd α}
theorem s_bnest0 (hC : CdOk P (cdV T)) (hF : Fr n a fr) (hM : Ms X w0 w mem) (hw : want ops fr g = some true) (hd : Nat.blt d n = true) (hu : P.underlying T' = some (.slice T))
    (k : ∀ a' w' v, Fr n a' ((d, v) :: fr) → Ms X w0 w' (nestR C T v [] [] :: mem) → wpList P ops Q rest a' w') : wpList P ops Q (⟨some d, .buildSlice T' 0 #[], ty, pos, aft, g⟩ :: rest) a w := by
  refine s_bsl (C := cdV T) (l := []) [] hC hF hM hw hd rfl rfl hu rfl fun a' w' v hF' hM' => k a' w' v hF' ?_
  have h0 : (rowR (cdV T) v [] :: mem)[0]? = some (rowR (cdV T) v []) := rfl
  have := hM'.turn (R' := nestR C T v [] []) h0 (Frm.refl _ _) ⟨hM'.get 0 h0, rfl, fun i u xs h _ => by simp at h, by simp [blks, nodup_toList]⟩ (fun b hb => .inl (by simpa [nestR, rowR, blks] using hb))
  exact this
end
end Go.K
namespace Go.K
theorem Ms.rowAt {X : List Nat} {w0 w : World} {mem : List Res} {α : Type} {C : Cd α} {T : Nat} {v : Value} {vs : List Value} {xss : List (List α)} {m : Int} (h : Ms X w0 w mem) (i : Nat) (hi : mem[i]? = some (nestR C T v vs xss)) (c : 0 ≤ m ∧ m < xss.length) : (rowR C (vs.getD m.toNat nilv) (xss.getD m.toNat [])).holds w :=
  (h.get i hi).2.2.1 _ _ _ ((h.ne i hi).at c) (getD_some c.1 c.2)
end Go.K
/- A small library for walks, thirteenth part: whole numbers of other kinds. -/
namespace Go.K
set_option linter.unusedSimpArgs false
open Go.RowKit
section
variable {P : Program} {a : Act} {w : World} {n : Nat} {fr : List (Nat × Value)} {d : Option Tmp} {ty : TypeId} {pos : String} {aft : Array Edge} {g : Option (Nat × Bool)} {x y : Operand} {m p : Int} {T T' : TypeId} {kd ke : IntKind}
section bin
variable (hF : Fr n a fr) (hx : ev fr x = some (.int kd m)) (hy : ev fr y = some (.int kd p))
include hF hx hy
theorem ek_add : (execOp a.eval ⟨d, .binOp .add T x y T', ty, pos, aft, g⟩).run P w = .ok (.value (.int kd (kd.wrap (m + p)))) w := by
  simp [execOp, hF.ev hx, hF.ev hy, eqGuard, binOp, Op.intArith]
theorem ek_sub : (execOp a.eval ⟨d, .binOp .sub T x y T', ty, pos, aft, g⟩).run P w = .ok (.value (.int kd (kd.wrap (m - p)))) w := by
  simp [execOp, hF.ev hx, hF.ev hy, eqGuard, binOp, Op.intArith]
theorem ek_mul : (execOp a.eval ⟨d, .binOp .mul T x y T', ty, pos, aft, g⟩).run P w = .ok (.value (.int kd (kd.wrap (m * p)))) w := by
  simp [execOp, hF.ev hx, hF.ev hy, eqGuard, binOp, Op.intArith]
theorem ek_eql : (execOp a.eval ⟨d, .binOp .eql T x y T', ty, pos, aft, g⟩).run P w = .ok (.value (.bool (decide (m = p)))) w := by
  simp [execOp, hF.ev hx, hF.ev hy, eqGuard, binOp, Op.intCmp, int_beq]
theorem ek_neq : (execOp a.eval ⟨d, .binOp .neq T x y T', ty, pos, aft, g⟩).run P w = .ok (.value (.bool (!decide (m = p)))) w := by
  simp [execOp, hF.ev hx, hF.ev hy, eqGuard, binOp, Op.intCmp, bne, int_beq]
theorem ek_lss : (execOp a.eval ⟨d, .binOp .lss T x y T', ty, pos, aft, g⟩).run P w = .ok (.value (.bool (decide (m < p)))) w := by
  simp [execOp, hF.ev hx, hF.ev hy, eqGuard, binOp, Op.intCmp]
theorem ek_leq : (execOp a.eval ⟨d, .binOp .leq T x y T', ty, pos, aft, g⟩).run P w = .ok (.value (.bool (decide (m ≤ p)))) w := by
  simp [execOp, hF.ev hx, hF.ev hy, eqGuard, binOp, Op.intCmp]
theorem ek_gtr : (execOp a.eval ⟨d, .binOp .gtr T x y T', ty, pos, aft, g⟩).run P w = .ok (.value (.bool (decide (p < m)))) w := by
  simp [execOp, hF.ev hx, hF.ev hy, eqGuard, binOp, Op.intCmp]
theorem ek_geq : (execOp a.eval ⟨d, .binOp .geq T x y T', ty, pos, aft, g⟩).run P w = .ok (.value (.bool (decide (p ≤ m)))) w := by
  simp [execOp, hF.ev hx, hF.ev hy, eqGuard, binOp, Op.intCmp]
theorem ek_and : (execOp a.eval ⟨d, .binOp .and T x y T', ty, pos, aft, g⟩).run P w = .ok (.value (.int kd (bits .and kd m p))) w := by
  simp [execOp, hF.ev hx, hF.ev hy, eqGuard, binOp, intBits_and]
theorem ek_or : (execOp a.eval ⟨d, .binOp .or T x y T', ty, pos, aft, g⟩).run P w = .ok (.value (.int kd (bits .or kd m p))) w := by
  simp [execOp, hF.ev hx, hF.ev hy, eqGuard, binOp, intBits_or]
end bin
theorem ek_shl (hF : Fr n a fr) (hx : ev fr x = some (.int kd m)) (hy : ev fr y = some (.int ke p)) (h : 0 ≤ p) : (execOp a.eval ⟨d, .binOp .shl T x y T', ty, pos, aft, g⟩).run P w = .ok (.value (.int kd (kd.wrap (m * 2 ^ (min p.toNat kd.bits))))) w := by
  simp [execOp, hF.ev hx, hF.ev hy, eqGuard, binOp, Op.shift, Int.not_lt.2 h]
theorem ek_shr (hF : Fr n a fr) (hx : ev fr x = some (.int kd m)) (hy : ev fr y = some (.int ke p)) (h : 0 ≤ p) : (execOp a.eval ⟨d, .binOp .shr T x y T', ty, pos, aft, g⟩).run P w = .ok (.value (.int kd (m.fdiv (2 ^ (min p.toNat kd.bits))))) w := by
  simp [execOp, hF.ev hx, hF.ev hy, eqGuard, binOp, Op.shift, Int.not_lt.2 h]
theorem ek_conv (hF : Fr n a fr) (hx : ev fr x = some (.int ke m)) (hs : P.underlying T = some (.int ke)) (hd : P.underlying T' = some (.int kd)) : (execOp a.eval ⟨d, .convert T T' x, ty, pos, aft, g⟩).run P w = .ok (.value (.int kd (kd.wrap m))) w := by
  simp [execOp, hF.ev hx, convert, run_underlying hs, run_underlying hd, Conv.intToInt]
theorem e_conv (hF : Fr n a fr) (hx : ev fr x = some (.int ke m)) (hs : P.underlying T = some (.int ke)) (hd : P.underlying T' = some (.int .i64)) : (execOp a.eval ⟨d, .convert T T' x, ty, pos, aft, g⟩).run P w = .ok (.value (.int .i64 (wrap64 m))) w := by
  rw [ek_conv hF hx hs hd, i64_wrap]
end
end Go.K
/- A small library of plain laws, for the parts with no program in sight. -/
namespace Go.K
open Go.RowKit

theorem w64 {n : Int} (h0 : -9223372036854775808 ≤ n) (h1 : n ≤ 9223372036854775807) : wrap64 n = n := by unfold wrap64; omega
theorem wf_range {n : Int} (h : (Lit.int .i64 n).wf = true) : -9223372036854775808 ≤ n ∧ n ≤ 9223372036854775807 := by
  simp only [Lit.wf, Bool.and_eq_true, decide_eq_true_eq] at h
  exact h
theorem iff_some {c : Prop} [Decidable c] {α : Type} {A B : Option α} (h : c) : (if c then A else B) = A := if_pos h
theorem iff_none {c : Prop} [Decidable c] {α : Type} {A B : Option α} (h : ¬ c) : (if c then A else B) = B := if_neg h
theorem some_bind {α β : Type} (x : α) (f : α → Option β) : (some x).bind f = f x := rfl
theorem of_fin {p : Int → Prop} (lo : Int) (n : Nat) (h : ∀ i : Fin n, p (lo + (i.val : Int))) {a : Int} (h0 : lo ≤ a) (h1 : a < lo + n) : p a := by
  have h2 := h ⟨(a - lo).toNat, by omega⟩
  have h3 : lo + ((a - lo).toNat : Int) = a := by omega
  exact h3 ▸ h2
end Go.K
namespace Go.K
open Go.RowKit
/-- A loop that counts up from n, c rounds: each round turns the state by F. -/
theorem loop_fold {σ ρ : Type} (g : Nat → Int → σ → Option ρ) (N : Nat) (I : Nat → σ → Prop) (F : Nat → σ → σ) (E : σ → Option ρ)
    (hs : ∀ k n s, n < N → I n s → g (k + 1) (n : Int) s = g k ((n + 1 : Nat) : Int) (F n s) ∧ I (n + 1) (F n s))
    (he : ∀ k s, I N s → g (k + 1) (N : Int) s = E s) :
    ∀ (c n k : Nat) (s : σ), n + c = N → c < k → I n s → g k (n : Int) s = E ((List.range' n c).foldl (fun s i => F i s) s) ∧ I N ((List.range' n c).foldl (fun s i => F i s) s) := by
  intro c
  induction c with
  | zero =>
    intro n k s h1 h2 h3
    obtain ⟨k, rfl⟩ : ∃ q, k = q + 1 := ⟨k - 1, by omega⟩
    have : n = N := by omega
    subst this
    exact ⟨he k s h3, h3⟩
  | succ c ih =>
    intro n k s h1 h2 h3
    obtain ⟨k, rfl⟩ : ∃ q, k = q + 1 := ⟨k - 1, by omega⟩
    obtain ⟨h4, h5⟩ := hs k n s (by omega) h3
    rw [h4, List.range'_succ, List.foldl_cons]
    exact ih (n + 1) k (F n s) (by omega) (by omega) h5
/-- The same from 0. -/
theorem loop_fold0 {σ ρ : Type} (g : Nat → Int → σ → Option ρ) (N : Nat) (I : Nat → σ → Prop) (F : Nat → σ → σ) (E : σ → Option ρ)
    (hs : ∀ k n s, n < N → I n s → g (k + 1) (n : Int) s = g k ((n + 1 : Nat) : Int) (F n s) ∧ I (n + 1) (F n s))
    (he : ∀ k s, I N s → g (k + 1) (N : Int) s = E s) (k : Nat) (s : σ) (hk : N < k) (h0 : I 0 s) : g k 0 s = E ((List.range N).foldl (fun s i => F i s) s) ∧ I N ((List.range N).foldl (fun s i => F i s) s) := by
  have := loop_fold g N I F E hs he N 0 k s (by omega) hk h0
  rw [List.range_eq_range']
  exact this
/-- A loop that counts up and leaves at the first round in which p holds. -/
theorem loop_find {ρ : Type} (g : Nat → Int → Option ρ) (N : Nat) (p : Nat → Bool) (R : Nat → Option ρ) (E : Option ρ)
    (hs : ∀ k n, n < N → g (k + 1) (n : Int) = if p n = true then R n else g k ((n + 1 : Nat) : Int))
    (he : ∀ k, g (k + 1) (N : Int) = E) :
    ∀ (c n k : Nat), n + c = N → c < k → g k (n : Int) = match (List.range' n c).find? p with
      | some i => R i
      | none => E := by
  intro c
  induction c with
  | zero =>
    intro n k h1 h2
    obtain ⟨k, rfl⟩ : ∃ q, k = q + 1 := ⟨k - 1, by omega⟩
    have : n = N := by omega
    subst this
    exact he k
  | succ c ih =>
    intro n k h1 h2
    obtain ⟨k, rfl⟩ : ∃ q, k = q + 1 := ⟨k - 1, by omega⟩
    rw [hs k n (by omega), List.range'_succ, List.find?_cons]
    cases hp : p n with
    | true => rfl
    | false => simp only [Bool.false_eq_true, if_false]; exact ih (n + 1) k (by omega) (by omega)
theorem w1' (n : Nat) (h : n ≤ 4000000000000000000) : wrap64 ((n : Int) + 1) = ((n + 1 : Nat) : Int) := by rw [w64 (by omega) (by omega)]; omega
theorem w1p (n : Nat) (h : n ≤ 4000000000000000000) : wrap64 (((n + 1 : Nat) : Int) - 1) = (n : Int) := by rw [w64 (by omega) (by omega)]; omega
theorem getD_nat {α : Type} (xs : List α) (z : α) (n : Nat) (h : n < xs.length) : xs.getD n z = xs[n] := by rw [List.getD_eq_getElem?_getD, List.getElem?_eq_getElem h]; rfl
end Go.K
/- A small library for rows: arguments opened. -/
namespace Go.K
open Go.RowKit Go.ChangeShapes Go.WideShapes Go.ChangeAt Go.Deep

section
variable {H : Type} {enc : TypeId × Value → H} {P : Program} {w : World} {base : Nat} {sp : Nat → Bool} {held : Bool}

def numIn : Value → Int | .int _ n => n | _ => 0

theorem core_int {t : TypeId} (ht : P.underlying t = some (.int .i64)) {fuel : Nat} {cs : List Value} {x : DataW H × List MemPlace} (h : DataW.trod enc P w base sp held fuel t cs = some x) :
    ∃ z : Int, cs = cat [Pt.int z] ∧ (Lit.int .i64 z).wf = true := by
  obtain ⟨n, rfl, _, hw⟩ := DataW.trod_int ht h
  exact ⟨n, rfl, hw⟩

theorem core_ar {t e : TypeId} {n : Nat} (ht : P.underlying t = some (.array n e)) (he : P.underlying e = some (.int .i64)) (hc : P.cellsOf e = 1) (hn : P.cellsOf t = n) {fuel : Nat} {cs : List Value} {x : DataW H × List MemPlace} (h : DataW.trod enc P w base sp held fuel t cs = some x) :
    ∃ a : Ar n, cs = cat [Pt.ar a] ∧ ∀ z ∈ a.l, (Lit.int .i64 z).wf = true := by
  obtain ⟨xs, m, _, _, hl, hx, hi⟩ := DataW.trod_array ht h
  rw [hn] at hl
  have each : ∀ i, i < n → ∃ z, cs[i]? = some (.int .i64 z) ∧ (Lit.int .i64 z).wf = true := by
    intro i hin
    have h1 := hi i hin
    rw [hc, Nat.mul_one, List.getElem?_eq_getElem (by omega)] at h1
    obtain ⟨z, hz, _, hw⟩ := DataW.trod_int he h1
    refine ⟨z, ?_, hw⟩
    have : ((cs.drop i).take 1)[0]? = some (.int .i64 z) := by rw [hz]; rfl
    rw [List.getElem?_take, if_pos (by omega), List.getElem?_drop] at this
    simpa using this
  refine ⟨⟨cs.map numIn, by rw [List.length_map, hl]⟩, ?_, ?_⟩
  · show cs = cat [Pt.ar _]
    simp only [cat, List.flatMap_cons, List.flatMap_nil, List.append_nil, Pt.ar, ints, List.map_map]
    apply List.ext_getElem?
    intro i
    rw [List.getElem?_map]
    rcases Nat.lt_or_ge i n with hin | hin
    · obtain ⟨z, hz, _⟩ := each i hin
      rw [hz]; rfl
    · rw [List.getElem?_eq_none (by omega)]; rfl
  · intro z hz
    simp only [List.mem_map] at hz
    obtain ⟨v, hv, rfl⟩ := hz
    obtain ⟨i, hi', hv'⟩ := List.getElem_of_mem hv
    obtain ⟨z, hz, hw⟩ := each i (by omega)
    rw [List.getElem?_eq_getElem hi', hv'] at hz
    cases hz
    exact hw

/-- A struct of two numbers. -/
theorem core_two {t : TypeId} {f0 f1 : Field} (ht : P.underlying t = some (.struct #[f0, f1])) (h0 : P.underlying f0.type = some (.int .i64)) (h1 : P.underlying f1.type = some (.int .i64)) (c0 : P.cellsOf f0.type = 1) (c1 : P.cellsOf f1.type = 1) (o0 : f0.offset = 0) (o1 : f1.offset = 1) (hn : P.cellsOf t = 2) {fuel : Nat} {cs : List Value} {x : DataW H × List MemPlace} (h : DataW.trod enc P w base sp held fuel t cs = some x) :
    ∃ a : Int × Int, cs = cat [Pt.int a.1, Pt.int a.2] ∧ (Lit.int .i64 a.1).wf = true ∧ (Lit.int .i64 a.2).wf = true := by
  obtain ⟨xs, m, _, _, hl, hx, hi⟩ := DataW.trod_struct ht h
  rw [hn] at hl
  have e0 := hi 0 f0 rfl
  have e1 := hi 1 f1 rfl
  have hx' : xs.length = 2 := hx
  rw [c0, o0, List.getElem?_eq_getElem (by omega)] at e0
  rw [c1, o1, List.getElem?_eq_getElem (by omega)] at e1
  obtain ⟨z0, hz0, _, w0⟩ := DataW.trod_int h0 e0
  obtain ⟨z1, hz1, _, w1⟩ := DataW.trod_int h1 e1
  match cs, hl with
  | [u, v], _ =>
    simp at hz0 hz1
    subst hz0 hz1
    exact ⟨(z0, z1), rfl, w0, w1⟩

theorem okWide_agg {r : Reach} {b0 : Nat} {t : TypeId} {v : Value} (ht : (∃ n e, P.underlying t = some (.array n e)) ∨ ∃ fs, P.underlying t = some (.struct fs)) (hval : Value.okWide P w r b0 t v) : ∃ cs, v = .agg cs := by
  unfold Value.okWide at hval
  rcases ht with ⟨n, e, ht⟩ | ⟨fs, ht⟩ <;>
  · rw [ht] at hval
    obtain ⟨cs, h, _⟩ := hval
    exact ⟨cs, h⟩

theorem agg_of {v : Value} {cs : List Value} (h : ∃ cs, v = .agg cs) (hc : v.cells.toList = cs) : v = .agg cs.toArray := by
  obtain ⟨c, rfl⟩ := h
  subst hc
  simp [Value.cells]

theorem open_ar {r : Reach} {b0 : Nat} {t e : TypeId} {n : Nat} {v : Value} {d : DataW H} {ps : List MemPlace} (ht : P.underlying t = some (.array n e)) (he : P.underlying e = some (.int .i64)) (hc : P.cellsOf e = 1) (hn : P.cellsOf t = n) (hval : Value.okWide P w r b0 t v) (hd : DataW.Trod enc P w base sp held t v d ps) :
    ∃ a : Ar n, v = ag [Pt.ar a] ∧ ∀ z ∈ a.l, (Lit.int .i64 z).wf = true := by
  obtain ⟨fuel, hd⟩ := hd
  obtain ⟨a, ha, hw⟩ := core_ar ht he hc hn hd
  exact ⟨a, agg_of (okWide_agg (.inl ⟨n, e, ht⟩) hval) ha, hw⟩

theorem open_two {r : Reach} {b0 : Nat} {t : TypeId} {f0 f1 : Field} {v : Value} {d : DataW H} {ps : List MemPlace} (ht : P.underlying t = some (.struct #[f0, f1])) (h0 : P.underlying f0.type = some (.int .i64)) (h1 : P.underlying f1.type = some (.int .i64)) (c0 : P.cellsOf f0.type = 1) (c1 : P.cellsOf f1.type = 1) (o0 : f0.offset = 0) (o1 : f1.offset = 1) (hn : P.cellsOf t = 2) (hval : Value.okWide P w r b0 t v) (hd : DataW.Trod enc P w base sp held t v d ps) :
    ∃ a : Int × Int, v = ag [Pt.int a.1, Pt.int a.2] ∧ (Lit.int .i64 a.1).wf = true ∧ (Lit.int .i64 a.2).wf = true := by
  obtain ⟨fuel, hd⟩ := hd
  obtain ⟨a, ha, hw⟩ := core_two ht h0 h1 c0 c1 o0 o1 hn hd
  exact ⟨a, agg_of (okWide_agg (.inr ⟨_, ht⟩) hval) ha, hw⟩

/-- A slice of what lies in its cells whole. -/
theorem open_sl {α : Type} (C : Cd α) (good : α → Prop) (core : ∀ fuel cs (x : DataW H × List MemPlace), DataW.trod enc P w base sp held fuel C.T cs = some x → ∃ a, cs = cat (C.ps a) ∧ good a) (hcs : P.cellsOf C.T = C.s)
    {r : Reach} {b0 : Nat} {t : TypeId} {v : Value} {d : DataW H} {ps : List MemPlace} (ht : P.underlying t = some (.slice C.T)) (hval : Value.okWide P w r b0 t v) (hd : DataW.Trod enc P w base sp held t v d ps) :
    ∃ xs, SlR C w v xs ∧ xs.length ≤ maxLen ∧ ∀ x ∈ xs, good x := by
  obtain ⟨a0, len0, cap0, rfl⟩ := okWide_slice ht hval
  obtain ⟨fuel, hd⟩ := hd
  have hcl : (Value.slice a0 len0 cap0).cells.toList = [Value.slice a0 len0 cap0] := rfl
  rw [hcl] at hd
  rcases open_slice ht hd with ⟨h0, _⟩ | ⟨a, len, cap, m, n, D, Pl, h0, _, hl, hm, hmm, _, hx⟩
  · cases h0
    exact ⟨[], SlR.nil C w 0 none, Nat.zero_le _, by simp⟩
  · obtain rfl : len = len0 := by cases h0; rfl
    cases h0
    have hlm : len ≤ m := by rw [hmm]; split <;> omega
    have each : ∀ i : Fin len, ∃ y : α, (∀ j, j < C.s → w.cell? ((a.add (i.val * C.s)).add j) = (cat (C.ps y))[j]?) ∧ good y := by
      intro i
      obtain ⟨cs', h1, h2⟩ := hx i.val (by have := i.isLt; omega)
      obtain ⟨y, hy, hg⟩ := core _ _ _ h2
      obtain ⟨_, hl', hcell⟩ := World.cells?_some h1
      rw [hcs] at hcell
      exact ⟨y, fun j hj => by rw [hcell j hj, hy], hg⟩
    obtain ⟨f, hf⟩ := Classical.axiomOfChoice each
    have hpos := C.pos
    have hlen : ((List.finRange len).map f).length = len := by simp
    refine ⟨(List.finRange len).map f, ⟨⟨some a, by rw [hlen]; rfl, fun hne => ?_⟩, by rw [hlen]; exact hl, fun j u hu => ?_⟩, by rw [hlen]; omega, ?_⟩
    · have hlt : 0 < len := by
        rcases Nat.eq_zero_or_pos len with h0 | h0
        · exact absurd (List.eq_nil_of_length_eq_zero (by rw [hlen]; exact h0)) hne
        · exact h0
      have h1 := (hf ⟨0, hlt⟩).1 0 hpos
      have h2 : (cat (C.ps (f ⟨0, hlt⟩)))[0]? = some ((cat (C.ps (f ⟨0, hlt⟩)))[0]'(by rw [cat_length, C.hs]; exact hpos)) := List.getElem?_eq_getElem _
      rw [h2] at h1
      have := World.cell?_spot h1
      obtain ⟨b, o, s⟩ := a
      simp [Addr.add] at this
      subst this
      rfl
    · have hj : j < (C.cells ((List.finRange len).map f)).length := (List.getElem?_eq_some_iff.1 hu).1
      rw [Cd.cells_length, hlen] at hj
      have hi : j / C.s < len := Nat.div_lt_of_lt_mul (by rw [Nat.mul_comm]; exact hj)
      have hr : j % C.s < C.s := Nat.mod_lt _ hpos
      have h1 := (hf ⟨j / C.s, hi⟩).1 (j % C.s) hr
      have he : ((List.finRange len).map f)[j / C.s]? = some (f ⟨j / C.s, hi⟩) := by simp [hi]
      have h2 := C.cells_get ((List.finRange len).map f) (j / C.s) _ (j % C.s) he hr
      have hjj : j / C.s * C.s + j % C.s = j := by rw [Nat.mul_comm]; exact Nat.div_add_mod j C.s
      rw [hjj, hu] at h2
      rw [← h2] at h1
      have := World.cell?_spot h1
      have hadd : (a.add (j / C.s * C.s)).add (j % C.s) = ⟨a.block, a.off + j, none⟩ := by
        obtain ⟨b, o, s⟩ := a
        by_cases c1 : j / C.s * C.s = 0
        · by_cases c2 : j % C.s = 0
          · have e : (Addr.add ⟨b, o, s⟩ (j / C.s * C.s)).add (j % C.s) = ⟨b, o, s⟩ := by simp [Addr.add, c1, c2]
            rw [e] at this ⊢
            have hs : s = none := this
            subst hs
            have : j = 0 := by omega
            subst this
            rfl
          · simp only [Addr.add, c1, c2, if_true, if_false, Addr.mk.injEq, true_and, and_true]
            omega
        · by_cases c2 : j % C.s = 0
          · simp only [Addr.add, c1, c2, if_true, if_false, Addr.mk.injEq, true_and, and_true]
            omega
          · simp only [Addr.add, c1, c2, if_false, Addr.mk.injEq, true_and, and_true]
            omega
      rw [hadd] at h1
      exact h1
    · intro x hx'
      simp only [List.mem_map] at hx'
      obtain ⟨i, _, rfl⟩ := hx'
      exact (hf i).2
end
end Go.K
/- A small library for walks, sixteenth part: maps whose keys are pairs of ints, read as functions; and ranges over them. -/
namespace Go.K
set_option linter.unusedSimpArgs false
open Go.RowKit
open Go.ChangeMaps (setBlock)

def kv (x : Int × Int) : Value := ag [Pt.int x.1, Pt.int x.2]
theorem kv_agg (x : Int × Int) : kv x = .agg #[.int .i64 x.1, .int .i64 x.2] := rfl
theorem kv_inj {x y : Int × Int} (h : kv x = kv y) : x = y := by
  rw [kv_agg, kv_agg] at h
  obtain ⟨a, b⟩ := x
  obtain ⟨c, d⟩ := y
  simp at h
  rw [h.1, h.2]
/-- What is known of a key type of two ints. -/
structure PairKey (P : Program) (T : TypeId) : Prop where
  eq : ∀ w x y, (Op.equalIn 10000 T (kv x) (kv y)).run P w = .ok (decide (x = y)) w
  check : ∀ w em x, (Instr.checkKey em 10000 T (kv x)).run P w = .ok () w
  und : ∃ fs, P.underlying T = some (.struct fs)
theorem run_eqpair {P : Program} {T E : TypeId} {f f' : Field} (hu : P.underlying T = some (.struct #[f, f'])) (hp : P.stoodInHeld T = false) (hf : f.name ≠ "_") (hf' : f'.name ≠ "_") (ho : f.offset = 0) (ho' : f'.offset = 1) (ht : f.type = E) (ht' : f'.type = E) (hE : P.underlying E = some (.int .i64)) (ha : ∀ w, (isAgg E).run P w = .ok false w) (w : World) (x y : Int × Int) :
    (Op.equalIn 10000 T (kv x) (kv y)).run P w = .ok (decide (x = y)) w := by
  have hfs : P.fieldsOf T = #[f, f'] := by simp [Program.fieldsOf, hu]
  have h := fun (a b : Int) => run_equalIn_int (P := P) w 9998 E .i64 .i64 a b hE
  have h1 : ∀ z : Int × Int, (part E #[Value.int .i64 z.1, Value.int .i64 z.2] 0).run P w = .ok (.int .i64 z.1) w := fun z => by simp [part, ha]
  have h2 : ∀ z : Int × Int, (part E #[Value.int .i64 z.1, Value.int .i64 z.2] 1).run P w = .ok (.int .i64 z.2) w := fun z => by simp [part, ha]
  have hd : decide (x = y) = ((x.1 == y.1) && (x.2 == y.2)) := by
    rw [Bool.eq_iff_iff]
    simp [Prod.ext_iff]
  rw [kv_agg, kv_agg, run_equalIn_struct w 9999 T _ _ (by rw [hfs]; exact hu) hp, hfs, hd]
  simp only [Op.eqFields, hf, hf', ne_eq, not_false_eq_true, if_true, Sem.run_bind, ho, ho', ht, ht', h1, h2, Result.andThen_ok, h]
  cases h3 : (x.1 == y.1) <;> cases h4 : (x.2 == y.2) <;> simp [Op.eqFields, h1, h2, h, h3, h4, ho', ht', hf']
section
variable {P : Program} {T Te Tk : TypeId}
theorem run_findAsking (K : PairKey P Tk) (w : World) (x : Int × Int) : ∀ (es : List MapEntry) (i : Nat), (∀ e ∈ es, ∃ y, e.key = kv y) →
    ((Instr.findAsking Tk (kv x) es i).run P w = .ok none w ∧ ∀ e ∈ es, e.key ≠ kv x) ∨ ∃ j e, (Instr.findAsking Tk (kv x) es i).run P w = .ok (some (i + j, e.val)) w ∧ es[j]? = some e ∧ e.key = kv x
  | [], i, _ => .inl ⟨by simp [Instr.findAsking], by simp⟩
  | e :: es, i, h => by
    obtain ⟨y, hy⟩ := h e (.head _)
    have hq := K.eq w x y
    by_cases hxy : x = y
    · refine .inr ⟨0, e, ?_, rfl, by rw [hy, hxy]⟩
      have : (Op.equal Tk (kv x) e.key).run P w = .ok true w := by rw [hy]; show (Op.equalIn 10000 Tk (kv x) (kv y)).run P w = _; rw [hq, decide_eq_true hxy]
      simp [Instr.findAsking, this]
    · have hne : (Op.equal Tk (kv x) e.key).run P w = .ok false w := by rw [hy]; show (Op.equalIn 10000 Tk (kv x) (kv y)).run P w = _; rw [hq, decide_eq_false hxy]
      rcases run_findAsking K w x es (i + 1) (fun z hz => h z (.tail _ hz)) with ⟨h1, h2⟩ | ⟨j, e', h1, h2, h3⟩
      · exact .inl ⟨by simp [Instr.findAsking, hne, h1], fun z hz => by
          cases hz with
          | head => intro e1; exact hxy (kv_inj (hy ▸ e1)).symm
          | tail _ hz => exact h2 z hz⟩
      · refine .inr ⟨j + 1, e', ?_, by simpa using h2, h3⟩
        simp [Instr.findAsking, hne, h1]
        omega
theorem run_findKey (K : PairKey P Tk) (w : World) (x : Int × Int) (es : List MapEntry) (h : ∀ e ∈ es, ∃ y, e.key = kv y) :
    ((Instr.findKey Tk (kv x) es).run P w = .ok none w ∧ ∀ e ∈ es, e.key ≠ kv x) ∨ ∃ j e, (Instr.findKey Tk (kv x) es).run P w = .ok (some (j, e.val)) w ∧ es[j]? = some e ∧ e.key = kv x := by
  obtain ⟨fs, hu⟩ := K.und
  cases es with
  | nil => exact .inl ⟨by simp [Instr.findKey, run_underlying hu, Instr.findNow], by simp⟩
  | cons e es =>
    obtain ⟨y, hy⟩ := h e (.head _)
    have hn : Instr.findNow (.struct fs) (kv x) (e :: es) 0 = none := by rw [Instr.findNow, hy]; rfl
    have := run_findAsking K w x (e :: es) 0 h
    simp only [Instr.findKey, Sem.run_bind, run_underlying hu, Result.andThen_ok, hn]
    simpa using this
theorem run_stays (w : World) (x : Int × Int) : (Instr.keyThatStays (kv x) (kv x)).run P w = .ok (kv x) w := by
  have : Instr.sameBits 10000 (kv x) (kv x) = true := by
    show Instr.sameBits (9999 + 1) (kv x) (kv x) = true
    rw [kv_agg]
    simp [Instr.sameBits]
  simp [Instr.keyThatStays, this]
end
/-! ### a map as a list of entries, and as a function -/
def vl : List ((Int × Int) × Int) → (Int × Int) → Int
  | [], _ => 0
  | x :: r, k => if x.1 = k then x.2 else vl r k
def upd (A : Int × Int → Int) (k : Int × Int) (v : Int) : Int × Int → Int := fun j => if j = k then v else A j
theorem vl_none : ∀ {l : List ((Int × Int) × Int)} {k : Int × Int}, (∀ x ∈ l, x.1 ≠ k) → vl l k = 0
  | [], _, _ => rfl
  | x :: r, k, h => by rw [vl, if_neg (h x (.head _)), vl_none (fun y hy => h y (.tail _ hy))]
theorem vl_mem : ∀ {l : List ((Int × Int) × Int)} {x : (Int × Int) × Int}, (l.map (·.1)).Nodup → x ∈ l → vl l x.1 = x.2
  | [], _, _, h => by simp at h
  | y :: r, x, hn, h => by
    rw [List.map_cons, List.nodup_cons] at hn
    rcases List.mem_cons.1 h with rfl | h
    · rw [vl, if_pos rfl]
    · rw [vl, if_neg (fun e => hn.1 (List.mem_map.2 ⟨x, h, e.symm⟩)), vl_mem hn.2 h]
theorem vl_append : ∀ (l : List ((Int × Int) × Int)) (k : Int × Int) (v : Int) (j : Int × Int), (∀ x ∈ l, x.1 ≠ k) → vl (l ++ [(k, v)]) j = upd (vl l) k v j
  | [], k, v, j, _ => by
    simp only [List.nil_append, vl, upd]
    by_cases h : k = j
    · rw [if_pos h, if_pos h.symm]
    · rw [if_neg h, if_neg (fun e => h e.symm)]
  | x :: r, k, v, j, h => by
    have hx := h x (.head _)
    have ih := vl_append r k v j (fun y hy => h y (.tail _ hy))
    simp only [List.cons_append, vl, upd] at ih ⊢
    by_cases h1 : x.1 = j
    · rw [if_pos h1, if_neg (fun e => hx (h1.trans e)), if_pos h1]
    · rw [if_neg h1, ih, if_neg h1]
theorem vl_set : ∀ (l : List ((Int × Int) × Int)) (i : Nat) (k : Int × Int) (v u : Int) (j : Int × Int), (l.map (·.1)).Nodup → l[i]? = some (k, u) → vl (l.set i (k, v)) j = upd (vl l) k v j
  | [], i, k, v, u, j, _, h => by simp at h
  | x :: r, 0, k, v, u, j, hn, h => by
    simp at h
    subst h
    simp only [List.set_cons_zero, vl, upd]
    by_cases h1 : k = j
    · rw [if_pos h1, if_pos h1.symm]
    · rw [if_neg h1, if_neg (fun e => h1 e.symm), if_neg h1]
  | x :: r, i + 1, k, v, u, j, hn, h => by
    rw [List.map_cons, List.nodup_cons] at hn
    simp at h
    have ih := vl_set r i k v u j hn.2 h
    have hxk : x.1 ≠ k := fun e => hn.1 (List.mem_map.2 ⟨_, List.mem_of_getElem? h, by rw [e]⟩)
    simp only [List.set_cons_succ, vl, upd] at ih ⊢
    by_cases h1 : x.1 = j
    · rw [if_pos h1, if_neg (fun e => hxk (h1.trans e)), if_pos h1]
    · rw [if_neg h1, ih, if_neg h1]
def enc (x : (Int × Int) × Int) : Value × Value := (kv x.1, .int .i64 x.2)
theorem enc_inj {x y : (Int × Int) × Int} (h : enc x = enc y) : x = y := by
  obtain ⟨a, b⟩ := x
  obtain ⟨c, d⟩ := y
  simp only [enc, Prod.mk.injEq] at h
  rw [kv_inj h.1]
  have := h.2
  simp at this
  rw [this]
/-- Block b is a map with these entries. -/
structure MapAt (w : World) (b : Nat) (es : Array MapEntry) (clock : Nat) (l : List ((Int × Int) × Int)) : Prop where
  obj : w.heap[b]? = some (.map es clock)
  ents : es.toList.map (fun e => (e.key, e.val)) = l.map enc
  keys : (l.map (·.1)).Nodup
  old : ∀ e ∈ es.toList, e.born < clock
  born : (es.toList.map (·.born)).Nodup
section
variable {w : World} {b : Nat} {es : Array MapEntry} {clock : Nat} {l : List ((Int × Int) × Int)}
theorem MapAt.at (h : MapAt w b es clock l) {j : Nat} {e : MapEntry} (he : es.toList[j]? = some e) : ∃ x, l[j]? = some x ∧ e.key = kv x.1 ∧ e.val = .int .i64 x.2 := by
  have h1 := congrArg (·[j]?) h.ents
  simp only [List.getElem?_map, he, Option.map_some] at h1
  cases hl : l[j]? with
  | none => rw [hl] at h1; simp at h1
  | some x =>
    rw [hl] at h1
    simp only [Option.map_some, Option.some.injEq, enc, Prod.mk.injEq] at h1
    exact ⟨x, rfl, h1.1, h1.2⟩
theorem MapAt.isKey (h : MapAt w b es clock l) : ∀ e ∈ es.toList, ∃ y, e.key = kv y := by
  intro e he
  obtain ⟨j, hj⟩ := List.getElem?_of_mem he
  obtain ⟨x, _, h1, _⟩ := h.at hj
  exact ⟨x.1, h1⟩
theorem MapAt.not_key (h : MapAt w b es clock l) {k : Int × Int} (hk : ∀ e ∈ es.toList, e.key ≠ kv k) : ∀ x ∈ l, x.1 ≠ k := by
  intro x hx e
  obtain ⟨j, hj⟩ := List.getElem?_of_mem hx
  have h1 := congrArg (·[j]?) h.ents
  simp only [List.getElem?_map, hj, Option.map_some] at h1
  cases he : es.toList[j]? with
  | none => rw [he] at h1; simp at h1
  | some y =>
    rw [he] at h1
    simp only [Option.map_some, Option.some.injEq, enc, Prod.mk.injEq] at h1
    exact hk y (List.mem_of_getElem? he) (by rw [h1.1, e])
theorem MapAt.push (h : MapAt w b es clock l) {w' : World} (k : Int × Int) (v : Int) (hk : ∀ e ∈ es.toList, e.key ≠ kv k) (hw : w'.heap[b]? = some (.map (es.push ⟨kv k, .int .i64 v, clock⟩) (clock + 1))) : MapAt w' b (es.push ⟨kv k, .int .i64 v, clock⟩) (clock + 1) (l ++ [(k, v)]) := by
  refine ⟨hw, ?_, ?_, ?_, ?_⟩
  · rw [Array.toList_push, List.map_append, List.map_append, h.ents]; rfl
  · rw [List.map_append, List.nodup_append]
    refine ⟨h.keys, by simp, ?_⟩
    intro a ha c hc
    obtain ⟨x, hx, rfl⟩ := List.mem_map.1 ha
    simp only [List.map_cons, List.map_nil, List.mem_singleton] at hc
    subst hc
    exact h.not_key hk x hx
  · intro e he
    rw [Array.toList_push, List.mem_append] at he
    rcases he with he | he
    · exact Nat.lt_succ_of_lt (h.old e he)
    · rw [List.mem_singleton.1 he]; exact Nat.lt_succ_self _
  · rw [Array.toList_push, List.map_append, List.nodup_append]
    refine ⟨h.born, by simp, ?_⟩
    intro a ha c hc
    obtain ⟨x, hx, rfl⟩ := List.mem_map.1 ha
    simp only [List.map_cons, List.map_nil, List.mem_singleton] at hc
    subst hc
    exact Nat.ne_of_lt (h.old x hx)
theorem MapAt.modify (h : MapAt w b es clock l) {w' : World} {j : Nat} {e : MapEntry} {k : Int × Int} (he : es.toList[j]? = some e) (hk : e.key = kv k) (v : Int) {f : MapEntry → MapEntry} (hf : f e = ⟨kv k, .int .i64 v, e.born⟩) (hw : w'.heap[b]? = some (.map (es.modify j f) clock)) : ∃ u, l[j]? = some (k, u) ∧ MapAt w' b (es.modify j f) clock (l.set j (k, v)) := by
  obtain ⟨x, hx, h1, h2⟩ := h.at he
  have hxk : x.1 = k := kv_inj (h1.symm.trans hk)
  have hm : (es.modify j f).toList = es.toList.set j (f e) := by
    rw [Array.toList_modify]
    exact Go.ChangeMaps.modify_eq_set _ _ _ _ he
  have hb : (es.toList.set j (f e)).map (·.born) = es.toList.map (·.born) := by
    rw [List.map_set]
    refine set_self _ _ _ ?_
    rw [List.getElem?_map, he, hf]; rfl
  refine ⟨x.2, by rw [hx, ← hxk], hw, ?_, ?_, ?_, ?_⟩
  · rw [hm, List.map_set, List.map_set, h.ents, hf]; rfl
  · rw [List.map_set, set_self _ _ _ (by rw [List.getElem?_map, hx, ← hxk]; rfl)]
    exact h.keys
  · intro y hy
    have : y.born ∈ ((es.modify j f).toList).map (·.born) := List.mem_map.2 ⟨y, hy, rfl⟩
    rw [hm, hb] at this
    obtain ⟨z, hz, e1⟩ := List.mem_map.1 this
    rw [← e1]
    exact h.old z hz
  · rw [hm, hb]; exact h.born
end
/-! ### maps as memory that is held -/
def MapHolds (b : Nat) (U : List (Int × Int)) (A : Int × Int → Int) (st : Option (Nat × (Int × Int))) (w : World) : Prop :=
  ∃ es clock l, MapAt w b es clock l ∧ (∀ x ∈ l, x.1 ∈ U) ∧ (∀ k, vl l k = A k) ∧ ∀ s k, st = some (s, k) → ∃ e ∈ es.toList, e.born = s ∧ e.key = kv k
theorem MapAt.stable {w w' : World} {b : Nat} {es : Array MapEntry} {clock : Nat} {l : List ((Int × Int) × Int)} (h : MapAt w b es clock l) (hb : w'.heap[b]? = w.heap[b]?) : MapAt w' b es clock l := ⟨by rw [hb]; exact h.obj, h.ents, h.keys, h.old, h.born⟩
/-- A map of its own: it reads as A, all its keys are of U; where st tells one, entry s is at key k. -/
def mapR (b : Nat) (U : List (Int × Int)) (A : Int × Int → Int) (st : Option (Nat × (Int × Int))) : Res where
  foot := [b]
  holds := MapHolds b U A st
  stable := by
    rintro w w' h ⟨es, clock, l, h1, h2⟩
    exact ⟨es, clock, l, h1.stable (h b (List.mem_singleton_self _)), h2⟩
/-- A map that is ranged over, and its iterator: left is still to come; cur is what has just come. -/
def rangeR (b r : Nat) (left : List ((Int × Int) × Int)) (cur : Option ((Int × Int) × Int)) : Res where
  foot := [b, r]
  holds := fun w => ∃ es clock l seen, MapAt w b es clock l ∧ w.heap[r]? = some (.mapIter (some b) clock seen clock) ∧ (es.toList.filter (fun e => !seen.contains e.born)).map (fun e => (e.key, e.val)) = left.map enc ∧
    ∀ x, cur = some x → ∃ e ∈ es.toList, ∃ seen0 : Array Nat, seen = seen0.push e.born ∧ (e.key, e.val) = enc x
  stable := by
    rintro w w' h ⟨es, clock, l, seen, h1, h2, h3⟩
    exact ⟨es, clock, l, seen, h1.stable (h b (by simp)), by rw [h r (by simp)]; exact h2, h3⟩
theorem frm_setBlock (w : World) (b : Nat) (o : Obj) : Frm [b] w (setBlock w b o) :=
  ⟨rfl, rfl, rfl, by simp [setBlock], fun k _ hk => by
    have : k ≠ b := by simpa using hk
    simp [setBlock, Array.getElem?_setIfInBounds, this.symm], Nat.le_refl _⟩
theorem setBlock_self {w : World} {b : Nat} {o' : Obj} (o : Obj) (h : w.heap[b]? = some o') : (setBlock w b o).heap[b]? = some o := by
  have hl := (Array.getElem?_eq_some_iff.1 h).1
  simp [setBlock, Array.getElem?_setIfInBounds, hl]
section
variable {P : Program} {T Te Tk : TypeId} {w : World} {b : Nat} {U : List (Int × Int)} {A : Int × Int → Int} {st : Option (Nat × (Int × Int))} {es : Array MapEntry} {clock : Nat} {l : List ((Int × Int) × Int)}
/-- The entry at a key, if any. -/
theorem MapAt.find (K : PairKey P Tk) (h : MapAt w b es clock l) (k : Int × Int) :
    ((Instr.findKey Tk (kv k) es.toList).run P w = .ok none w ∧ (∀ e ∈ es.toList, e.key ≠ kv k) ∧ vl l k = 0) ∨
    ∃ j e, (Instr.findKey Tk (kv k) es.toList).run P w = .ok (some (j, .int .i64 (vl l k))) w ∧ es.toList[j]? = some e ∧ e.key = kv k ∧ e.val = .int .i64 (vl l k) := by
  rcases run_findKey K w k es.toList h.isKey with ⟨h1, h2⟩ | ⟨j, e, h1, h2, h3⟩
  · exact .inl ⟨h1, h2, vl_none (h.not_key h2)⟩
  · obtain ⟨x, hx, e1, e2⟩ := h.at h2
    have hxk : x.1 = k := kv_inj (e1.symm.trans h3)
    have hv : vl l k = x.2 := by rw [← hxk]; exact vl_mem h.keys (List.mem_of_getElem? hx)
    refine .inr ⟨j, e, by rw [h1, e2, hv], h2, h3, by rw [e2, hv]⟩
theorem run_lookup_pair (K : PairKey P Tk) (hT : P.underlying T = some (.map Tk Te)) (hz : ∀ w, (zeroValue Te).run P w = .ok (.int .i64 0) w) (h : MapHolds b U A st w) (k : Int × Int) :
    (Instr.lookup T (.map (some b)) (kv k) false).run P w = .ok (.int .i64 (A k)) w := by
  obtain ⟨es, clock, l, h1, h2, h3, h4⟩ := h
  rcases h1.find K k with ⟨g1, g2, g3⟩ | ⟨j, e, g1, g2, g3, g4⟩
  · simp [Instr.lookup, run_underlying hT, MapKept.run_getObj_map h1.obj, K.check w, g1, hz, Result.andThen, ← h3 k, g3]
  · simp [Instr.lookup, run_underlying hT, MapKept.run_getObj_map h1.obj, K.check w, g1, Result.andThen, ← h3 k]
theorem run_mapEntry_pair (K : PairKey P Tk) (hT : P.underlying T = some (.map Tk Te)) (hz : ∀ w, (zeroValue Te).run P w = .ok (.int .i64 0) w) (h : MapHolds b U A st w) (k : Int × Int) (hk : k ∈ U) :
    ∃ (s : Nat) (w' : World), (Instr.mapEntry T (.map (some b)) (kv k)).run P w = .ok (.tuple #[.int .i64 (A k), .int .i64 (s : Int)]) w' ∧ Frm [b] w w' ∧ MapHolds b U A (some (s, k)) w' := by
  obtain ⟨es, clock, l, h1, h2, h3, h4⟩ := h
  rcases h1.find K k with ⟨g1, g2, g3⟩ | ⟨j, e, g1, g2, g3, g4⟩
  · refine ⟨clock, _, ?_, frm_setBlock w b (.map (es.push ⟨kv k, .int .i64 0, clock⟩) (clock + 1)), ?_⟩
    · rw [← h3 k, g3]
      simp [Instr.mapEntry, run_underlying hT, MapKept.run_getObj_map h1.obj, K.check w, g1, hz, MapKept.run_setObj_map _ h1.obj, Result.andThen, setBlock, goInt]
    · have hp := h1.push k 0 g2 (setBlock_self (.map (es.push ⟨kv k, .int .i64 0, clock⟩) (clock + 1)) h1.obj)
      refine ⟨_, _, _, hp, ?_, ?_, ?_⟩
      · intro x hx
        rcases List.mem_append.1 hx with hx | hx
        · exact h2 x hx
        · rw [List.mem_singleton.1 hx]; exact hk
      · intro j
        rw [vl_append _ _ _ _ (h1.not_key g2)]
        unfold upd
        by_cases hj : j = k
        · rw [if_pos hj, hj, ← h3 k, g3]
        · rw [if_neg hj, h3 j]
      · intro s k' e1
        cases e1
        exact ⟨⟨kv k, .int .i64 0, clock⟩, by simp, rfl, rfl⟩
  · have hsame : es.modify j (fun e => { e with key := kv k }) = es := by
      apply Array.ext'
      rw [Array.toList_modify, Go.ChangeMaps.modify_eq_set _ _ _ _ g2]
      have : ({ e with key := kv k } : MapEntry) = e := by rw [← g3]
      rw [this]
      exact set_self _ _ _ g2
    have hj : es[j]? = some e := by simpa using g2
    refine ⟨e.born, setBlock w b (.map es clock), ?_, frm_setBlock w b _, es, clock, l, ⟨setBlock_self _ h1.obj, h1.ents, h1.keys, h1.old, h1.born⟩, h2, h3, ?_⟩
    · rw [← h3 k]
      simp [Instr.mapEntry, run_underlying hT, MapKept.run_getObj_map h1.obj, K.check w, g1, hj, g3, run_stays, hsame, MapKept.run_setObj_map _ h1.obj, Result.andThen, setBlock, goInt]
    · intro s k' e1
      cases e1
      exact ⟨e, List.mem_of_getElem? g2, rfl, g3⟩
theorem run_entryStore_pair {k : Int × Int} {s : Nat} (h : MapHolds b U A (some (s, k)) w) (v : Int) :
    ∃ w' : World, (Instr.entryStore T (.map (some b)) (.int .i64 (s : Int)) (.int .i64 v)).run P w = .ok () w' ∧ Frm [b] w w' ∧ MapHolds b U (upd A k v) none w' := by
  obtain ⟨es, clock, l, h1, h2, h3, h4⟩ := h
  obtain ⟨e, he, hs, hk⟩ := h4 s k rfl
  obtain ⟨j, hj⟩ := List.getElem?_of_mem he
  have hidx : es.findIdx? (fun e' => ((e'.born : Nat) : Int) == ((s : Nat) : Int)) = some j := by
    rw [WideElems.findIdx_arr, ← hs]
    exact WideElems.findIdx_born h1.born hj
  obtain ⟨u, hu, hm⟩ := h1.modify (w' := setBlock w b (.map (es.modify j fun e => { e with val := .int .i64 v }) clock)) hj hk v (f := fun e => { e with val := .int .i64 v }) (by rw [← hk]) (setBlock_self _ h1.obj)
  refine ⟨_, ?_, frm_setBlock w b _, _, _, _, hm, ?_, ?_, fun _ _ e1 => by cases e1⟩
  · simp [Instr.entryStore, MapKept.run_getObj_map h1.obj, asInt, asIntOf, hidx, MapKept.run_setObj_map _ h1.obj, Result.andThen, setBlock]
  · intro x hx
    rcases List.mem_or_eq_of_mem_set hx with hx | rfl
    · exact h2 x hx
    · exact h2 (k, u) (List.mem_of_getElem? hu)
  · intro i
    rw [vl_set _ _ _ _ _ _ h1.keys hu]
    unfold upd
    by_cases hi : i = k
    · rw [if_pos hi, if_pos hi]
    · rw [if_neg hi, if_neg hi, h3 i]
/-- A store at a key that is not there. -/
theorem run_insert_pair (K : PairKey P Tk) (hT : P.underlying T = some (.map Tk Te)) (h : MapHolds b U A st w) (k : Int × Int) (hk : k ∈ U) (v : Int) :
    ∃ w' : World, (Instr.mapUpdate T (.map (some b)) (kv k) (.int .i64 v)).run P w = .ok () w' ∧ Frm [b] w w' ∧ MapHolds b U (upd A k v) none w' := by
  obtain ⟨es, clock, l, h1, h2, h3, h4⟩ := h
  rcases h1.find K k with ⟨g1, g2, g3⟩ | ⟨j, e, g1, g2, g3, g4⟩
  · have hp := h1.push k v g2 (setBlock_self (.map (es.push ⟨kv k, .int .i64 v, clock⟩) (clock + 1)) h1.obj)
    refine ⟨_, ?_, frm_setBlock w b _, _, _, _, hp, ?_, ?_, fun _ _ e1 => by cases e1⟩
    · simp [Instr.mapUpdate, run_underlying hT, MapKept.run_getObj_map h1.obj, K.check w, g1, MapKept.run_setObj_map _ h1.obj, Result.andThen, setBlock]
    · intro x hx
      rcases List.mem_append.1 hx with hx | hx
      · exact h2 x hx
      · rw [List.mem_singleton.1 hx]; exact hk
    · intro j
      rw [vl_append _ _ _ _ (h1.not_key g2)]
      unfold upd
      by_cases hj : j = k
      · rw [if_pos hj, if_pos hj]
      · rw [if_neg hj, if_neg hj, h3 j]
  · have hj : es[j]? = some e := by simpa using g2
    obtain ⟨u, hu, hm⟩ := h1.modify (w' := setBlock w b (.map (es.modify j fun e => { e with key := kv k, val := .int .i64 v }) clock)) g2 g3 v (f := fun e => { e with key := kv k, val := .int .i64 v }) rfl (setBlock_self _ h1.obj)
    refine ⟨_, ?_, frm_setBlock w b _, _, _, _, hm, ?_, ?_, fun _ _ e1 => by cases e1⟩
    · simp [Instr.mapUpdate, run_underlying hT, MapKept.run_getObj_map h1.obj, K.check w, g1, hj, g3, run_stays, MapKept.run_setObj_map _ h1.obj, Result.andThen, setBlock]
    · intro x hx
      rcases List.mem_or_eq_of_mem_set hx with hx | rfl
      · exact h2 x hx
      · exact h2 (k, u) (List.mem_of_getElem? hu)
    · intro i
      rw [vl_set _ _ _ _ _ _ h1.keys hu]
      unfold upd
      by_cases hi : i = k
      · rw [if_pos hi, if_pos hi]
      · rw [if_neg hi, if_neg hi, h3 i]
theorem run_makeMap_pair : ∃ w' : World, (Instr.makeMap T none).run P w = .ok (.map (some w.heap.size)) w' ∧ Frm [] w w' ∧ w'.heap.size = w.heap.size + 1 ∧ MapHolds w.heap.size U (fun _ => 0) none w' := by
  refine ⟨w.alloc (.map #[] 0), by simp [Instr.makeMap], Frm.alloc _ _ _, by simp, #[], 0, [], ⟨heap_alloc_new w _, rfl, by simp, by simp, by simp⟩, by simp, fun _ => rfl, fun _ _ e1 => by cases e1⟩
/-- 'range m' -/
theorem run_range_pair (hT : P.underlying T = some (.map Tk Te)) (h : MapHolds b U A st w) :
    ∃ (w' : World) (left : List ((Int × Int) × Int)), (Instr.range T (.map (some b))).run P w = .ok (pt w.heap.size 0) w' ∧ Frm [] w w' ∧ w'.heap.size = w.heap.size + 1 ∧ (rangeR b w.heap.size left none).holds w' ∧ (left.map (·.1)).Nodup ∧ (∀ x ∈ left, x.1 ∈ U) ∧ ∀ k, vl left k = A k := by
  obtain ⟨es, clock, l, h1, h2, h3, h4⟩ := h
  have hlt := (Array.getElem?_eq_some_iff.1 h1.obj).1
  refine ⟨_, l, run_range_map w T Tk Te b es clock hT h1.obj, Frm.alloc _ _ _, by simp, ⟨es, clock, l, #[], h1.stable (Below.heap_alloc w _ b hlt), heap_alloc_new w _, ?_, fun _ e1 => by cases e1⟩, h1.keys, h2, h3⟩
  rw [← h1.ents]
  congr 1
  rw [List.filter_eq_self]
  simp
theorem filter_part {es : List MapEntry} {seen : Array Nat} {e : MapEntry} (hn : (es.map (·.born)).Nodup) (he : e ∈ es) (hs : seen.contains e.born = false) :
    ∃ p q, es.filter (fun e => !seen.contains e.born) = p ++ e :: q ∧ es.filter (fun e' => !(seen.push e.born).contains e'.born) = p ++ q := by
  induction es with
  | nil => simp at he
  | cons a r ih =>
    rw [List.map_cons, List.nodup_cons] at hn
    rcases List.mem_cons.1 he with rfl | he'
    · refine ⟨[], r.filter (fun e => !seen.contains e.born), by rw [List.filter_cons, hs]; rfl, ?_⟩
      have h0 : (seen.push e.born).contains e.born = true := by simp
      rw [List.filter_cons, h0]
      simp only [Bool.not_true, Bool.false_eq_true, if_false, List.nil_append]
      refine List.filter_congr fun x hx => ?_
      have hne : x.born ≠ e.born := fun e1 => hn.1 (List.mem_map.2 ⟨x, hx, e1⟩)
      have : (seen.push e.born).contains x.born = seen.contains x.born := by
        rw [Bool.eq_iff_iff]
        simp [hne]
      rw [this]
    · obtain ⟨p, q, h1, h2⟩ := ih hn.2 he'
      have hne : a.born ≠ e.born := fun e1 => hn.1 (List.mem_map.2 ⟨e, he', e1.symm⟩)
      have hc : (seen.push e.born).contains a.born = seen.contains a.born := by
        rw [Bool.eq_iff_iff]
        simp [hne]
      rw [List.filter_cons, List.filter_cons, hc, h1, h2]
      cases hb : seen.contains a.born with
      | true => exact ⟨p, q, by simp, by simp⟩
      | false => exact ⟨a :: p, q, by simp, by simp⟩
/-- A step of the range: the end, or an entry that is still to come, whichever. -/
theorem run_next_pair {r : Nat} {left : List ((Int × Int) × Int)} {cur : Option ((Int × Int) × Int)} (hne : r ≠ b) (h : (rangeR b r left cur).holds w) (ty : TypeId) :
    (left = [] ∧ (Instr.next (pt r 0) false ty).run P w = .ok (.tuple #[.bool false]) w) ∨
    ∃ (p q : List ((Int × Int) × Int)) (x : (Int × Int) × Int) (w' : World), left = p ++ x :: q ∧ (Instr.next (pt r 0) false ty).run P w = .ok (.tuple #[.bool true, kv x.1, .int .i64 x.2]) w' ∧ Frm [r] w w' ∧ (rangeR b r (p ++ q) (some x)).holds w' := by
  obtain ⟨es, clock, l, seen, h1, h2, h3, h4⟩ := h
  rcases run_next_at (P := P) w ty r b clock clock seen es clock h2 h1.obj h1.old (Nat.le_refl _) with ⟨g1, g2⟩ | ⟨e, g1, w1, g2, g3⟩
  · left
    refine ⟨?_, g2⟩
    have : (es.toList.filter (fun e => !seen.contains e.born)) = [] := by
      unfold leftOf at g1
      rw [← Array.toList_filter]
      exact List.eq_nil_of_length_eq_zero (by rw [Array.length_toList]; exact g1)
    rw [this] at h3
    cases left with
    | nil => rfl
    | cons a r => simp at h3
  · right
    have he : e ∈ es.toList ∧ seen.contains e.born = false := by
      unfold leftOf at g1
      rw [Array.toList_filter, List.mem_filter] at g1
      exact ⟨g1.1, by simpa using g1.2⟩
    obtain ⟨p, q, f1, f2⟩ := filter_part h1.born he.1 he.2
    rw [f1, List.map_append, List.map_cons] at h3
    obtain ⟨p', q0, e1, e2, e3⟩ := List.map_eq_append_iff.1 h3.symm
    obtain ⟨x, q', rfl, e4, e5⟩ := List.map_eq_cons_iff.1 e3
    have hx : e.key = kv x.1 ∧ e.val = .int .i64 x.2 := by
      simp only [enc, Prod.mk.injEq] at e4
      exact ⟨e4.1.symm, e4.2.symm⟩
    have hr1 : w1.heap[r]? = some (.mapIter (some b) clock seen clock) := by rcases g2 with rfl | rfl <;> exact h2
    have hfw : Frm [] w w1 := by rcases g2 with rfl | rfl; exact Frm.refl _ _; exact Frm.drew _ _
    have hbl := (Array.getElem?_eq_some_iff.1 h1.obj).1
    refine ⟨p', q', x, _, e1, by rw [g3, hx.1, hx.2], ?_, es, clock, l, seen.push e.born, ?_, setBlock_self _ hr1, ?_, ?_⟩
    · exact Frm.later (X := [r]) (Y := [r]) ⟨hfw.os, hfw.tape, hfw.output, hfw.size, fun k hk _ => hfw.block k hk (by simp), hfw.drawn⟩ (frm_setBlock w1 r _) (fun y hy _ => hy)
    · refine h1.stable ?_
      rw [(frm_setBlock w1 r _).block b (Nat.lt_of_lt_of_le hbl hfw.size) (by simpa using fun e => hne e.symm), hfw.block b hbl (by simp)]
    · rw [f2, List.map_append, List.map_append, e2, e5]
    · intro y hy
      cases hy
      exact ⟨e, he.1, seen, rfl, e4.symm⟩
theorem run_entry_pair {r : Nat} {left : List ((Int × Int) × Int)} {x : (Int × Int) × Int} (h : (rangeR b r left (some x)).holds w) :
    (Instr.entry (pt r 0)).run P w = .ok (.tuple #[kv x.1, .int .i64 x.2]) w := by
  obtain ⟨es, clock, l, seen, h1, h2, h3, h4⟩ := h
  obtain ⟨e, he, seen0, rfl, hx⟩ := h4 x rfl
  simp only [enc, Prod.mk.injEq] at hx
  have := run_entry_at (P := P) w r b clock seen0 es clock e h2 h1.obj he h1.born
  rw [hx.1, hx.2] at this
  exact this
end
/-! ### the steps of a walk -/
theorem Frm.more {X : List Nat} {w w' : World} (h : Frm [] w w') : Frm X w w' := ⟨h.os, h.tape, h.output, h.size, fun k hk _ => h.block k hk (by simp), h.drawn⟩
section
variable {X : List Nat} {P : Program} {ops : Array Oper} {Q : Exit → Act → World → Prop} {rest : List Oper} {a : Act} {w w0 : World} {n : Nat} {fr : List (Nat × Value)} {d : Nat} {ty : TypeId} {pos : String} {aft : Array Edge} {g : Option (Nat × Bool)} {x y z : Operand} {T Te Tk : TypeId} {mem : List Res} {b r i : Nat} {U : List (Int × Int)} {A : Int × Int → Int} {st : Option (Nat × (Int × Int))} {left : List ((Int × Int) × Int)} {cur : Option ((Int × Int) × Int)}
theorem s_makemap (U : List (Int × Int)) (hF : Fr n a fr) (hM : Ms X w0 w mem) (hw : want ops fr g = some true) (hd : Nat.blt d n = true)
    (k : ∀ a' w' b, Fr n a' ((d, .map (some b)) :: fr) → Ms X w0 w' (mapR b U (fun _ => 0) none :: mem) → wpList P ops Q rest a' w') : wpList P ops Q (⟨some d, .makeMap T none, ty, pos, aft, g⟩ :: rest) a w := by
  obtain ⟨w', h1, h2, h3, h4⟩ := run_makeMap_pair (P := P) (T := T) (U := U) (w := w)
  refine s_valw (d := d) (w' := w') (v := .map (some w.heap.size)) hF hw rfl hd ?_ fun a' hF' => k a' w' w.heap.size hF' (hM.add h2 (mapR w.heap.size U (fun _ => 0) none) h4 ?_)
  · simp [execOp, h1]
  · intro c hc
    obtain rfl : c = w.heap.size := by simpa [mapR] using hc
    omega
theorem s_insert (K : PairKey P Tk) (hT : P.underlying T = some (.map Tk Te)) {kk : Int × Int} {v : Int} (hF : Fr n a fr) (hM : Ms X w0 w mem) (hw : want ops fr g = some true) (hx : ev fr x = some (.map (some b))) (hy : ev fr y = some (kv kk)) (hz : ev fr z = some (.int .i64 v)) (hi : mem[i]? = some (mapR b U A st)) (hk : kk ∈ U)
    (k : ∀ a' w', Fr n a' fr → Ms X w0 w' (mem.set i (mapR b U (upd A kk v) none)) → wpList P ops Q rest a' w') : wpList P ops Q (⟨none, .insert T x y z, ty, pos, aft, g⟩ :: rest) a w := by
  obtain ⟨w', h1, h2, h3⟩ := run_insert_pair K hT (hM.get i hi) kk hk v
  refine s_nov hF hw rfl (w' := w') ?_ fun a' hF' => k a' w' hF' (hM.turn (R' := mapR b U (upd A kk v) none) hi h2 h3 (fun c hc => .inl hc))
  simp [execOp, hF.ev hx, hF.ev hy, hF.ev hz, h1]
theorem s_maprange (hT : P.underlying T = some (.map Tk Te)) (hF : Fr n a fr) (hM : Ms X w0 w mem) (hw : want ops fr g = some true) (hd : Nat.blt d n = true) (hx : ev fr x = some (.map (some b))) (hi : mem[i]? = some (mapR b U A st))
    (k : ∀ a' w' r left, r ≠ b → (left.map (·.1)).Nodup → (∀ x ∈ left, x.1 ∈ U) → (∀ k, vl left k = A k) → Fr n a' ((d, pt r 0) :: fr) → Ms X w0 w' (mem.set i (rangeR b r left none)) → wpList P ops Q rest a' w') : wpList P ops Q (⟨some d, .range T x, ty, pos, aft, g⟩ :: rest) a w := by
  obtain ⟨w', left, h1, h2, h3, h4, h5, h6, h7⟩ := run_range_pair hT (hM.get i hi)
  have hbl := (hM.foots _ (List.mem_of_getElem? hi) b (by simp [mapR])).2
  refine s_valw (d := d) (w' := w') (v := pt w.heap.size 0) hF hw rfl hd ?_ fun a' hF' => k a' w' w.heap.size left (by omega) h5 h6 h7 hF' (hM.turn (R' := rangeR b w.heap.size left none) hi h2.more h4 ?_)
  · simp [execOp, hF.ev hx, h1]
  · intro c hc
    have hc' : c = b ∨ c = w.heap.size := by simpa [rangeR] using hc
    rcases hc' with rfl | rfl
    · exact .inl (by simp [mapR])
    · exact .inr (by omega)
theorem s_next (hne : r ≠ b) (hF : Fr n a fr) (hM : Ms X w0 w mem) (hw : want ops fr g = some true) (hd : Nat.blt d n = true) (hx : ev fr x = some (pt r 0)) (hi : mem[i]? = some (rangeR b r left cur))
    (k1 : ∀ a', left = [] → Fr n a' ((d, .tuple #[.bool false]) :: fr) → wpList P ops Q rest a' w)
    (k2 : ∀ a' w' p q e, left = p ++ e :: q → Fr n a' ((d, .tuple #[.bool true, kv e.1, .int .i64 e.2]) :: fr) → Ms X w0 w' (mem.set i (rangeR b r (p ++ q) (some e))) → wpList P ops Q rest a' w') : wpList P ops Q (⟨some d, .next x false, ty, pos, aft, g⟩ :: rest) a w := by
  rcases run_next_pair (P := P) hne (hM.get i hi) ty with ⟨h1, h2⟩ | ⟨p, q, e, w', h1, h2, h3, h4⟩
  · refine s_valw (d := d) (w' := w) (v := .tuple #[.bool false]) hF hw rfl hd ?_ fun a' hF' => k1 a' h1 hF'
    simp [execOp, hF.ev hx, h2]
  · refine s_valw (d := d) (w' := w') (v := .tuple #[.bool true, kv e.1, .int .i64 e.2]) hF hw rfl hd ?_ fun a' hF' => k2 a' w' p q e h1 hF' (hM.turn (R' := rangeR b r (p ++ q) (some e)) hi ?_ h4 (fun c hc => .inl hc))
    · simp [execOp, hF.ev hx, h2]
    · exact ⟨h3.os, h3.tape, h3.output, h3.size, fun k hk hk' => h3.block k hk (fun hc => hk' (by rw [List.mem_singleton] at hc; simp [rangeR, hc])), h3.drawn⟩
theorem e_entry {e : (Int × Int) × Int} (hF : Fr n a fr) (hM : Ms X w0 w mem) (hx : ev fr x = some (pt r 0)) (hi : mem[i]? = some (rangeR b r left (some e))) (d : Option Tmp) :
    (execOp a.eval ⟨d, .entry x, ty, pos, aft, g⟩).run P w = .ok (.value (.tuple #[kv e.1, .int .i64 e.2])) w := by
  have := run_entry_pair (P := P) (hM.get i hi)
  simp [execOp, hF.ev hx, this]
theorem e_lookup (K : PairKey P Tk) (hT : P.underlying T = some (.map Tk Te)) (hz : ∀ w, (zeroValue Te).run P w = .ok (.int .i64 0) w) {kk : Int × Int} (hF : Fr n a fr) (hM : Ms X w0 w mem) (hx : ev fr x = some (.map (some b))) (hy : ev fr y = some (kv kk)) (hi : mem[i]? = some (mapR b U A st)) (d : Option Tmp) :
    (execOp a.eval ⟨d, .lookup T x y false, ty, pos, aft, g⟩).run P w = .ok (.value (.int .i64 (A kk))) w := by
  have := run_lookup_pair K hT hz (hM.get i hi) kk
  simp [execOp, hF.ev hx, hF.ev hy, this]
theorem s_mapentry (K : PairKey P Tk) (hT : P.underlying T = some (.map Tk Te)) (hz : ∀ w, (zeroValue Te).run P w = .ok (.int .i64 0) w) {kk : Int × Int} (hF : Fr n a fr) (hM : Ms X w0 w mem) (hw : want ops fr g = some true) (hd : Nat.blt d n = true) (hx : ev fr x = some (.map (some b))) (hy : ev fr y = some (kv kk)) (hi : mem[i]? = some (mapR b U A st)) (hk : kk ∈ U)
    (k : ∀ a' w' (s : Nat), Fr n a' ((d, .tuple #[.int .i64 (A kk), .int .i64 (s : Int)]) :: fr) → Ms X w0 w' (mem.set i (mapR b U A (some (s, kk)))) → wpList P ops Q rest a' w') : wpList P ops Q (⟨some d, .mapEntry T x y, ty, pos, aft, g⟩ :: rest) a w := by
  obtain ⟨s, w', h1, h2, h3⟩ := run_mapEntry_pair K hT hz (hM.get i hi) kk hk
  refine s_valw (d := d) (w' := w') (v := .tuple #[.int .i64 (A kk), .int .i64 (s : Int)]) hF hw rfl hd ?_ fun a' hF' => k a' w' s hF' (hM.turn (R' := mapR b U A (some (s, kk))) hi h2 h3 (fun c hc => .inl hc))
  simp [execOp, hF.ev hx, hF.ev hy, h1]
theorem s_entrystore {kk : Int × Int} {s : Nat} {v : Int} (hF : Fr n a fr) (hM : Ms X w0 w mem) (hw : want ops fr g = some true) (hx : ev fr x = some (.map (some b))) (hy : ev fr y = some (.int .i64 (s : Int))) (hz : ev fr z = some (.int .i64 v)) (hi : mem[i]? = some (mapR b U A (some (s, kk))))
    (k : ∀ a' w', Fr n a' fr → Ms X w0 w' (mem.set i (mapR b U (upd A kk v) none)) → wpList P ops Q rest a' w') : wpList P ops Q (⟨none, .entryStore T x y z, ty, pos, aft, g⟩ :: rest) a w := by
  obtain ⟨w', h1, h2, h3⟩ := run_entryStore_pair (P := P) (T := T) (hM.get i hi) v
  refine s_nov hF hw rfl (w' := w') ?_ fun a' hF' => k a' w' hF' (hM.turn (R' := mapR b U (upd A kk v) none) hi h2 h3 (fun c hc => .inl hc))
  simp [execOp, hF.ev hx, hF.ev hy, hF.ev hz, h1]
end
end Go.K
/- A small library for walks, seventeenth part: a slice of one's own is handed to slices.SortFunc. -/
namespace Go.K
set_option linter.unusedSimpArgs false
open Go.RowKit Go.Sort Go.Proofs
def encC {α : Type} (C : Cd α) (x : α) : List Value := cat (C.ps x)
theorem encC_len {α : Type} (C : Cd α) (x : α) : (encC C x).length = C.s := by unfold encC; rw [cat_length, C.hs]
section
variable {α : Type} [Inhabited α] (C : Cd α)
theorem flat_get (xs : List α) (t : Nat) (ht : t < xs.length * C.s) : (C.cells xs)[t]? = some ((flatK (encC C) C.s xs.toArray)[t]!) := by
  have hq : t / C.s < xs.length := by rw [Nat.div_lt_iff_lt_mul C.pos]; exact ht
  have hr : t % C.s < C.s := Nat.mod_lt _ C.pos
  have h2 := C.cells_get xs (t / C.s) xs[t / C.s] (t % C.s) (List.getElem?_eq_getElem hq) hr
  rw [Nat.mul_comm, Nat.div_add_mod] at h2
  rw [h2, get_flatK _ _ _ _ (by simpa using ht)]
  have hl : t % C.s < (encC C xs[t / C.s]).length := by rw [encC_len]; exact hr
  have e : xs.toArray[t / C.s]! = xs[t / C.s] := by simp [hq]
  rw [e, getElem!_pos (encC C xs[t / C.s]) (t % C.s) hl]
  exact List.getElem?_eq_getElem hl
theorem holds_row {w : World} {b cap : Nat} {xs : List α} (h : (rowR C (.slice (some ⟨b, 0, none⟩) xs.length cap) xs).holds w) : HoldsK (encC C) C.s w b 0 xs.toArray ∧ b < w.heap.size := by
  obtain ⟨hlen, h⟩ : w.ownsRow 0 C.T C.s (.slice (some ⟨b, 0, none⟩) xs.length cap) xs.length (C.cells xs) := h
  rcases h with ⟨h0, _⟩ | ⟨b', cap', cur, hv, hb0, hg, hnc, hcm, hcs, htake⟩
  · cases h0
  · cases hv
    refine ⟨fun j hj => ?_, (Array.getElem?_eq_some_iff.1 hg).1⟩
    have hj' : j < xs.length * C.s := by simpa using hj
    have h1 := flat_get C xs j hj'
    rw [← htake, List.getElem?_take, if_pos hj'] at h1
    constructor
    · rw [Nat.zero_add]
      simp only [World.cell?, hg]
      simpa using h1
    · simp [World.frozen?, hg]
theorem frm_sortWorld (w : World) (b n : Nat) (d : Array α) (os : Array Obj) : Frm [b] w (sortWorldK (encC C) C.s w b 0 n d os) := by
  refine ⟨rfl, rfl, rfl, ?_, fun k hk hx => ?_, by show w.drawn ≤ w.drawn + n; omega⟩
  · simp [sortWorldK, grow, putRowK]
  · have hkb : ¬ b = k := by
      intro e
      exact hx (by simp [e])
    simp only [sortWorldK, grow, putRowK, putRow, mapBlock, heap_ahead]
    rw [Array.getElem?_append_left (by simpa using hk), Array.getElem?_modify, if_neg hkb]
theorem row_sorted {w : World} {b cap n : Nat} {xs ys : List α} {os : Array Obj} (h : (rowR C (.slice (some ⟨b, 0, none⟩) xs.length cap) xs).holds w) (hl : ys.length = xs.length) : (rowR C (.slice (some ⟨b, 0, none⟩) xs.length cap) ys).holds (sortWorldK (encC C) C.s w b 0 n ys.toArray os) := by
  obtain ⟨hlen, h⟩ : w.ownsRow 0 C.T C.s (.slice (some ⟨b, 0, none⟩) xs.length cap) xs.length (C.cells xs) := h
  rcases h with ⟨h0, _⟩ | ⟨b', cap', cur, hv, hb0, hg, hnc, hcm, hcs, htake⟩
  · cases h0
  · cases hv
    have hb := (Array.getElem?_eq_some_iff.1 hg).1
    refine ⟨C.cells_length ys, .inr ⟨b, cap, putCells id 0 (flatK (encC C) C.s ys.toArray) cur, by rw [hl], hb0, ?_, by rw [hl]; exact hnc, hcm, ?_, ?_⟩⟩
    · simp only [sortWorldK, grow, putRowK, putRow, mapBlock, heap_ahead]
      rw [Array.getElem?_append_left (by simpa using hb), Array.getElem?_modify, if_pos rfl, hg]
      rfl
    · rw [← hcs]; simp [putCells]
    · apply List.ext_getElem?
      intro j
      rw [List.getElem?_take]
      by_cases hj : j < ys.length * C.s
      · rw [if_pos hj, flat_get C ys j hj]
        have hj2 : j < cur.size := by
          have h3 := congrArg List.length htake
          rw [List.length_take, hlen] at h3
          rw [hl] at hj
          simp only [Array.length_toList] at h3
          omega
        rw [Array.getElem?_toList]
        simp only [putCells, Array.getElem?_mapIdx]
        rw [Array.getElem?_eq_getElem hj2]
        simp only [Option.map_some, size_flatK, List.size_toArray, Nat.zero_le, Nat.zero_add, true_and, if_pos hj, Nat.sub_zero, id]
      · rw [if_neg hj, List.getElem?_eq_none (by rw [C.cells_length]; omega)]
end
theorem grown_of_frm {w w' : World} (h : Frm [] w w') : ∃ q os', w' = grow (w.drewN q) os' := by
  refine ⟨w'.drawn - w.drawn, w'.heap.extract w.heap.size w'.heap.size, ?_⟩
  have h1 : w'.heap = w.heap ++ w'.heap.extract w.heap.size w'.heap.size := by
    apply Array.ext_getElem?
    intro k
    by_cases hk : k < w.heap.size
    · rw [Array.getElem?_append_left hk, h.block k hk (by simp)]
    · rw [Array.getElem?_append_right (by omega), Array.getElem?_extract]
      by_cases hk2 : k < w'.heap.size
      · rw [if_pos (by omega)]
        congr 1
        omega
      · rw [if_neg (by omega), Array.getElem?_eq_none (by omega)]
  have h2 : w.drawn + (w'.drawn - w.drawn) = w'.drawn := by have := h.drawn; omega
  obtain ⟨heap, tape, drawn, os, output⟩ := w'
  have e1 : tape = w.tape := h.tape
  have e2 : os = w.os := h.os
  have e3 : output = w.output := h.output
  subst e1 e2 e3
  simp only [grow, World.drewN] at h1 h2 ⊢
  rw [h2, ← h1]
/-! ### what sorts is one list -/
theorem perm_sorted_eq {α : Type} {lt : α → α → Prop} (hasym : ∀ x y, ¬ lt x y → ¬ lt y x → x = y) : ∀ {a b : List α}, a.Perm b → a.Pairwise (fun x y => ¬ lt y x) → b.Pairwise (fun x y => ¬ lt y x) → a = b
  | [], b, hp, _, _ => (List.nil_perm.1 hp).symm
  | x :: a, [], hp, _, _ => by simp at hp
  | x :: a, y :: b, hp, ha, hb => by
    rw [List.pairwise_cons] at ha hb
    have hxy : x = y := by
      rcases List.mem_cons.1 (hp.mem_iff.1 (List.mem_cons_self (a := x) (l := a))) with e | hx
      · exact e
      · rcases List.mem_cons.1 (hp.mem_iff.2 (List.mem_cons_self (a := y) (l := b))) with e | hy
        · exact e.symm
        · exact hasym x y (hb.1 x hx) (ha.1 y hy)
    subst hxy
    rw [perm_sorted_eq hasym (List.Perm.cons_inv hp) ha.2 hb.2]
/-! ### copy into an array that is part of a box -/
/-- What copy leaves in an array: what is copied, then what was there. -/
def Ar.cpy {c : Nat} (q : Ar c) (ys : List Int) : Ar c := ⟨ys.take (min ys.length c) ++ q.l.drop (min ys.length c), by rw [List.length_append, List.length_take, List.length_drop, q.h]; omega⟩
theorem ints_append (l m : List Int) : ints (l ++ m) = ints l ++ ints m := by simp [ints]
theorem s_copyA {X : List Nat} {P : Program} {ops : Array Oper} {Q : Exit → Act → World → Prop} {rest : List Oper} {a : Act} {w w0 : World} {n : Nat} {fr : List (Nat × Value)} {d : Nat} {ty : TypeId} {pos : String} {aft : Array Edge} {g : Option (Nat × Bool)} {x y : Operand} {u : Value} {T : TypeId} {mem : List Res}
    {c : Nat} {q : Ar c} {b o i k TB : Nat} {ps : List Pt} {C : Cd Int} {ys : List Int} (hC : CdOk P C) (hCc : ∀ l, C.cells l = ints l) (hF : Fr n a fr) (hM : Ms X w0 w mem) (hw : want ops fr g = some true) (hd : Nat.blt d n = true) (hx : ev fr x = some (.slice (some ⟨b, o, none⟩) c c)) (hy : ev fr y = some u) (hys : SlR C w u ys) (hi : mem[i]? = some (boxR b ps TB)) (hk : ps[k]? = some (Pt.ar q)) (ho : offs (ps.take k) = o) (hu : P.underlying T = some (.slice C.T))
    (kk : ∀ a' w', Fr n a' ((d, .int .i64 ((min ys.length c : Nat) : Int)) :: fr) → Ms X w0 w' (mem.set i (boxR b (ps.set k (Pt.ar (q.cpy ys))) TB)) → wpList P ops Q rest a' w') : wpList P ops Q (⟨some d, .call ⟨.builtin .copy, #[x, y], #[T, T]⟩, ty, pos, aft, g⟩ :: rest) a w := by
  obtain ⟨inf, hi0, his, hib, hiz⟩ := hC.info
  have hx' := hF.ev hx
  have hy' := hF.ev hy
  obtain ⟨ua, hu1, hu2⟩ := hys.form
  have hcell := hys.cell
  have hmin : Nat.min ys.length c = min ys.length c := rfl
  have hq' : (Pt.ar (q.cpy ys)).cs = ints (ys.take (min ys.length c)) ++ ints (q.l.drop (min ys.length c)) := by
    show ints (q.cpy ys).l = _
    rw [← ints_append]; rfl
  generalize hcp : q.cpy ys = q' at *
  generalize hmm : min ys.length c = mm at *
  have hml : (ys.take mm).length = mm := by rw [List.length_take]; omega
  have hfc : (Builtin.firstCells C.s mm u).run P w = .ok (C.cells (ys.take mm)).toArray w := by
    by_cases hy0 : ys = []
    · subst hy0
      have : mm = 0 := by simp at hmm; omega
      subst this
      rw [hu1]
      cases ua <;> simp [Builtin.firstCells, loadCells, loadCellsFrom, Cd.cells]
    · have hua := hu2 hy0
      have := run_firstCells_some (P := P) w C.s mm ⟨sblk u, soff u, none⟩ ys.length (scap u) (C.cells (ys.take mm)) (by rw [C.cells_length, hml]) (fun j x hx => by
        rw [add_lit0]
        refine hcell j x ?_
        rw [C.cells_take, List.getElem?_take] at hx
        split at hx
        · exact hx
        · cases hx)
      rw [hu1, hua]
      exact this
  have hln : (Builtin.lenOf u).run P w = .ok ys.length w := by rw [hu1]; simp [Builtin.lenOf]
  have hsz : ∀ w, (sizeOf C.T).run P w = .ok C.s w := fun w => by simp [sizeOf, typeInfo, hi0, his]
  have hb : w.heap[b]? = some (.cells (cat ps).toArray TB (0, 0)) := hM.get i hi
  have hps := offs_take_le ps k _ hk
  rw [ho] at hps
  have hnn : (Pt.ar q).n = c := rfl
  have hlen : o + (ints (ys.take mm)).length ≤ (cat ps).length := by rw [cat_length, ints_length, hml]; omega
  have hr := run_storeCells_list (P := P) w b o TB (cat ps) (ints (ys.take mm)) hb hlen (ints_one _)
  have h3 : cat ps = (cat ps).take o ++ (Pt.ar q).cs ++ (cat ps).drop (o + c) := by
    have h := cat_set ps k _ _ hk (rfl : (Pt.ar q).n = (Pt.ar q).n)
    rw [set_self ps k _ hk, ho] at h
    exact h
  have hlen0 : ((cat ps).take o).length = o := by rw [List.length_take, cat_length]; omega
  have hql : (Pt.ar q).cs.length = c := (Pt.ar q).h
  have he : cat (ps.set k (Pt.ar q')) = (cat ps).take o ++ ints (ys.take mm) ++ (cat ps).drop (o + (ints (ys.take mm)).length) := by
    have h := cat_set ps k _ (Pt.ar q') hk rfl
    rw [ho] at h
    rw [h, hq', ints_length, hml]
    have t2 : (cat ps).drop (o + mm) = ints (q.l.drop mm) ++ (cat ps).drop (o + c) := by
      conv => lhs; rw [h3]
      rw [List.append_assoc, List.drop_append, hlen0, List.drop_of_length_le (by rw [hlen0]; omega), List.nil_append, Nat.add_sub_cancel_left, List.drop_append, hql]
      rw [show mm - c = 0 by omega, List.drop_zero]
      show (ints q.l).drop mm ++ _ = _
      simp [ints, List.map_drop]
    rw [t2]
    simp [Pt.ar]
  have hM' := hM.turn (R' := boxR b (ps.set k (Pt.ar q')) TB) hi (frm_setRow w b _) (setRow_eq w b TB (cat ps) (cat (ps.set k (Pt.ar q'))) hb) (by simp [boxR])
  refine s_valw (d := d) (v := .int .i64 (mm : Int)) hF hw rfl hd ?_ fun a' hF' => kk a' _ hF' hM'
  rw [hCc] at hfc
  rw [he]
  simp only [execOp, resolve, invoke, builtin, Sem.run_bind, Sem.run_pure, Result.andThen_ok, List.map_toArray, List.map_cons, List.map_nil, hx', hy']
  simp [Builtin.copy_, run_underlying hu, hln, hsz, hmin, hfc, hr, goInt]
theorem cells_ints {C : Cd Int} (h : ∀ x, C.ps x = [Pt.int x]) : ∀ l, C.cells l = ints l
  | [] => rfl
  | x :: l => by
    have ih := cells_ints h l
    simp only [Cd.cells, List.flatMap_cons, ints, List.map_cons] at ih ⊢
    rw [ih, h x]
    rfl
end Go.K
