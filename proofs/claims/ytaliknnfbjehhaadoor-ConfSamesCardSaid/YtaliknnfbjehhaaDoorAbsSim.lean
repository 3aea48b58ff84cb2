/-
  Facts for walks by rewriting: cells, new blocks, stores, slices.
-/
import Derived.Test.YtaliknnfbjehhaaDoorAbsWp
set_option linter.all false
namespace Go.Abs

/-- A cell. -/
noncomputable def Heap.cell (h : Heap) (a : Nat × Nat) : Option V :=
  match h.row a.1 with
  | some (_, cs) => cs[a.2]?
  | .none => .none

def two (x y : Option V) : Option V := match x, y with | some x, some y => some (.agg [x, y]) | _, _ => none
def three (x y z : Option V) : Option V := match x, y, z with | some x, some y, some z => some (.agg [x, y, z]) | _, _, _ => none

theorem takeAt_eq (cs : List V) (off n : Nat) : takeAt cs off n = if off + n ≤ cs.length then some ((cs.drop off).take n) else none := by
  unfold takeAt
  rw [lenL_eq, takeL_eq, dropL_eq]
  by_cases h : off + n ≤ cs.length
  · rw [if_pos h, show Nat.ble (off + n) cs.length = true from Nat.ble_eq_true_of_le h]
  · rw [if_neg h]
    cases hb : Nat.ble (off + n) cs.length with
    | true => exact absurd (Nat.le_of_ble_eq_true hb) h
    | false => rfl

theorem load_eq (h : Heap) (a : Nat × Nat) (n : Nat) : h.load a n = (match h.row a.1 with | some (_, cs) => takeAt cs a.2 n | none => none) := rfl

theorem load_one (h : Heap) (a : Nat × Nat) : (match h.load a 1 with | some [v] => some v | _ => none) = h.cell a := by
  rw [load_eq]
  unfold Heap.cell
  cases h.row a.1 with
  | none => rfl
  | some p =>
    obtain ⟨o, cs⟩ := p
    simp only [takeAt_eq]
    by_cases hl : a.2 < cs.length
    · rw [if_pos (by omega), List.drop_eq_getElem_cons hl, List.getElem?_eq_getElem hl]
      simp only [List.take_succ_cons, List.take_zero]
    · rw [if_neg (by omega), List.getElem?_eq_none (by omega)]

theorem load_two (h : Heap) (a : Nat × Nat) : (match h.load a 2 with | some cs => some (V.agg cs) | none => none) = two (h.cell a) (h.cell (a.1, a.2 + 1)) := by
  rw [load_eq]
  unfold Heap.cell
  cases h.row a.1 with
  | none => rfl
  | some p =>
    obtain ⟨o, cs⟩ := p
    simp only [takeAt_eq]
    by_cases hl : a.2 + 2 ≤ cs.length
    · rw [if_pos hl, List.drop_eq_getElem_cons (by omega), List.drop_eq_getElem_cons (by omega), List.getElem?_eq_getElem (by omega), List.getElem?_eq_getElem (by omega)]
      simp only [two, List.take_succ_cons, List.take_zero]
    · rw [if_neg hl, List.getElem?_eq_none (i := a.2 + 1) (by omega)]
      cases cs[a.2]? <;> rfl

theorem load_three (h : Heap) (a : Nat × Nat) : (match h.load a 3 with | some cs => some (V.agg cs) | none => none) = three (h.cell a) (h.cell (a.1, a.2 + 1)) (h.cell (a.1, a.2 + 2)) := by
  rw [load_eq]
  unfold Heap.cell
  cases h.row a.1 with
  | none => rfl
  | some p =>
    obtain ⟨o, cs⟩ := p
    simp only [takeAt_eq]
    by_cases hl : a.2 + 3 ≤ cs.length
    · rw [if_pos hl, List.drop_eq_getElem_cons (by omega), List.drop_eq_getElem_cons (by omega), List.drop_eq_getElem_cons (by omega), List.getElem?_eq_getElem (by omega), List.getElem?_eq_getElem (by omega), List.getElem?_eq_getElem (by omega)]
      simp only [three, List.take_succ_cons, List.take_zero]
    · rw [if_neg hl, List.getElem?_eq_none (i := a.2 + 2) (by omega)]
      cases cs[a.2]? <;> cases cs[a.2 + 1]? <;> rfl

/-! ### new blocks, stores -/

noncomputable def Heap.add (h : Heap) (x : Blk) : Heap := (h.new x).2

theorem next_add (h : Heap) (x : Blk) : (h.add x).next = h.next + 1 := rfl
theorem lim_add (h : Heap) (x : Blk) : (h.add x).lim = h.lim := rfl
theorem lim0_add (h : Heap) (x : Blk) : (h.add x).lim0 = h.lim0 := rfl
theorem next_set (h : Heap) (b : Nat) (x : Blk) : (h.set b x).next = h.next := rfl
theorem lim_set (h : Heap) (b : Nat) (x : Blk) : (h.set b x).lim = h.lim := rfl
theorem lim0_set (h : Heap) (b : Nat) (x : Blk) : (h.set b x).lim0 = h.lim0 := rfl
theorem next_up (h : Heap) : h.up.next = h.next := rfl
theorem lim_up (h : Heap) : h.up.lim = h.next := rfl
theorem lim0_up (h : Heap) : h.up.lim0 = h.lim0 := rfl
theorem next_down (h : Heap) (l : Nat) : (h.down l).next = h.next := rfl
theorem lim_down (h : Heap) (l : Nat) : (h.down l).lim = l := rfl
theorem lim0_down (h : Heap) (l : Nat) : (h.down l).lim0 = h.lim0 := rfl
theorem row_up (h : Heap) (b : Nat) : h.up.row b = h.row b := rfl
theorem row_down (h : Heap) (l b : Nat) : (h.down l).row b = h.row b := rfl
theorem cell_up (h : Heap) (a : Nat × Nat) : h.up.cell a = h.cell a := rfl
theorem cell_down (h : Heap) (l : Nat) (a : Nat × Nat) : (h.down l).cell a = h.cell a := rfl
theorem up_down (h : Heap) : h.up.down h.lim = h := rfl
theorem down_down (h : Heap) (l m : Nat) : (h.down l).down m = h.down m := rfl
theorem down_self (h : Heap) : h.down h.lim = h := rfl
theorem add_down (h : Heap) (x : Blk) (l : Nat) : (h.add x).down l = (h.down l).add x := rfl
theorem up_add_down (h : Heap) (x : Blk) : (h.up.add x).down h.lim = h.add x := rfl

def rowOf : Blk → Option (Bool × List V)
  | .row o cs => some (o, cs)
  | _ => none

theorem row_get (h : Heap) (b : Nat) : h.row b = (match h.get b with | some x => rowOf x | none => none) := by
  unfold Heap.row rowOf
  cases h.get b with
  | none => rfl
  | some x => cases x <;> rfl

theorem row_add {h : Heap} (hn : h.lim0 ≤ h.next) (x : Blk) (b : Nat) : (h.add x).row b = if b = h.next then rowOf x else h.row b := by
  rw [row_get, show (h.add x).get b = _ from Heap.get_new h hn x b, row_get]
  by_cases hb : b = h.next
  · rw [if_pos hb, if_pos hb]
  · rw [if_neg hb, if_neg hb]

theorem row_set {h : Heap} {b : Nat} (hb : h.lim0 ≤ b) (x : Blk) (c : Nat) : (h.set b x).row c = if c = b then rowOf x else h.row c := by
  rw [row_get, Heap.get_set h hb, row_get]
  by_cases hc : c = b
  · rw [if_pos hc, if_pos hc]
  · rw [if_neg hc, if_neg hc]

theorem row_add_old {h : Heap} (hn : h.lim0 ≤ h.next) {x : Blk} {b : Nat} (hb : b < h.next) : (h.add x).row b = h.row b := by rw [row_add hn, if_neg (by omega)]
theorem row_add_new {h : Heap} (hn : h.lim0 ≤ h.next) {x : Blk} : (h.add x).row h.next = rowOf x := by rw [row_add hn, if_pos rfl]
theorem row_set_same {h : Heap} {b : Nat} (hb : h.lim0 ≤ b) {x : Blk} : (h.set b x).row b = rowOf x := by rw [row_set hb, if_pos rfl]
theorem row_set_other {h : Heap} {b c : Nat} (hb : h.lim0 ≤ b) {x : Blk} (hc : c ≠ b) : (h.set b x).row c = h.row c := by rw [row_set hb, if_neg hc]

theorem cell_row {h : Heap} {b : Nat} {o : Bool} {cs : List V} (hr : h.row b = some (o, cs)) (i : Nat) : h.cell (b, i) = cs[i]? := by simp only [Heap.cell, hr]
theorem cell_same {h h' : Heap} {b : Nat} (hr : h'.row b = h.row b) (i : Nat) : h'.cell (b, i) = h.cell (b, i) := by simp only [Heap.cell, hr]

theorem store_row {h : Heap} {b off : Nat} {o : Bool} {cs new : List V} (hr : h.row b = some (o, cs)) (hl : h.lim ≤ b) (ha : allCells new = true) (hn : off + new.length ≤ cs.length) :
    h.store (b, off) new = some (h.set b (.row o (splice cs off new))) := by
  unfold Heap.store
  simp only [hr, show Nat.ble h.lim b = true from Nat.ble_eq_true_of_le hl, ha, lenL_eq, show Nat.ble (off + new.length) cs.length = true from Nat.ble_eq_true_of_le hn]

/-- More blocks; the old ones as they were. -/
structure Grow (h h' : Heap) : Prop where
  next : h.next ≤ h'.next
  lim : h'.lim = h.lim
  lim0 : h'.lim0 = h.lim0
  row : ∀ b, b < h.next → h'.row b = h.row b

theorem Grow.refl (h : Heap) : Grow h h := ⟨Nat.le_refl _, rfl, rfl, fun _ _ => rfl⟩
theorem Grow.trans {a b c : Heap} (p : Grow a b) (q : Grow b c) : Grow a c :=
  ⟨Nat.le_trans p.next q.next, q.lim.trans p.lim, q.lim0.trans p.lim0, fun x hx => (q.row x (Nat.lt_of_lt_of_le hx p.next)).trans (p.row x hx)⟩
theorem Grow.add {h : Heap} (hn : h.lim0 ≤ h.next) (x : Blk) : Grow h (h.add x) := ⟨Nat.le_succ _, rfl, rfl, fun b hb => row_add_old hn hb⟩
theorem Grow.cell {h h' : Heap} (g : Grow h h') {b : Nat} (hb : b < h.next) (i : Nat) : h'.cell (b, i) = h.cell (b, i) := cell_same (g.row b hb) i
theorem Grow.up {h h' : Heap} (g : Grow h.up h') : Grow h (h'.down h.lim) := ⟨g.next, rfl, g.lim0, fun b hb => g.row b hb⟩

/-- A new variable. -/
theorem newA_eq {h : Heap} {v : V} (ha : allCells v.cells = true) : newA h v = some (.ptr (some (h.next, 0)), h.add (.row false v.cells)) := by
  simp only [newA, ha]; rfl

/-! ### slices -/

/-- A slice that begins at a place, of some length. -/
inductive Sl : V → Nat → Nat → Nat → Prop
  | sl (b o n c : Nat) : Sl (.slice (some (b, o)) n c) b o n
  | op (b o n e : Nat) : Sl (.oslice b o n e) b o n
  | nil (b o c : Nat) : Sl (.slice none 0 c) b o 0
  | dang (a : Addr) (b o : Nat) : Sl (.dang a) b o 0

/-- Natural numbers as values. -/
def nI (n : Nat) : V := .int .i64 (.ofNat n)

theorem ltI_nat (a b : Nat) : ltI (.ofNat a) (.ofNat b) = decide (a < b) := by rw [ltI_eq]; simp

theorem ic_str (l : List UInt8) : (V.str l).isCell = true := rfl
theorem ic_int (k : IntKind) (n : Int) : (V.int k n).isCell = true := rfl
theorem ic_op (b o n e : Nat) : (V.oslice b o n e).isCell = true := rfl
theorem ic_sl (a : Option (Nat × Nat)) (n c : Nat) : (V.slice a n c).isCell = true := rfl
theorem thenR_n (P : Program) (k n : Nat) (b : Code) (Q : Out → Env → Heap → Prop) (e : Env) (h : Heap) : thenR P k n b Q .normal e h = R (execA P k n b e h) Q := rfl
theorem thenR_x (P : Program) (k n : Nat) (b : Code) (Q : Out → Env → Heap → Prop) (i : Nat) (e : Env) (h : Heap) : thenR P k n b Q (.exit i) e h = Q (.exit i) e h := rfl
theorem thenR_r (P : Program) (k n : Nat) (b : Code) (Q : Out → Env → Heap → Prop) (e : Env) (h : Heap) : thenR P k n b Q .ret e h = Q .ret e h := rfl
theorem blockR_n (id : Nat) (Q : Out → Env → Heap → Prop) (e : Env) (h : Heap) : blockR id Q .normal e h = Q .normal e h := rfl
theorem blockR_r (id : Nat) (Q : Out → Env → Heap → Prop) (e : Env) (h : Heap) : blockR id Q .ret e h = Q .ret e h := rfl
theorem blockR_x (id : Nat) (Q : Out → Env → Heap → Prop) (e : Env) (h : Heap) : blockR id Q (.exit id) e h = Q .normal e h := by
  have : Nat.beq id id = true := Nat.beq_refl id
  simp only [blockR, this]
theorem args_one (a : V) : argsEnv [a] 0 .leaf = PMap.set .leaf 0 a := rfl
theorem args_two (a b : V) : argsEnv [a, b] 0 .leaf = PMap.set (PMap.set .leaf 0 a) 1 b := rfl
theorem args_three (a b c : V) : argsEnv [a, b, c] 0 .leaf = PMap.set (PMap.set (PMap.set .leaf 0 a) 1 b) 2 c := rfl


theorem Grow.set {h h1 : Heap} (g : Grow h h1) {b : Nat} (hb : h.next ≤ b) (hl : h.lim0 ≤ b) (x : Blk) : Grow h (h1.set b x) :=
  ⟨g.next, g.lim, g.lim0, fun c hc => by rw [row_set_other (by rw [g.lim0]; exact hl) (by omega)]; exact g.row c hc⟩
theorem Grow.ok0 {h h1 : Heap} (g : Grow h h1) (hn : h.lim0 ≤ h.next) : h1.lim0 ≤ h1.next := by rw [g.lim0]; exact Nat.le_trans hn g.next
theorem Grow.okl {h h1 : Heap} (g : Grow h h1) (hn : h.lim ≤ h.next) : h1.lim ≤ h1.next := by rw [g.lim]; exact Nat.le_trans hn g.next

/-- A new variable that is written at once. -/
noncomputable def Heap.var (h : Heap) (z A : List V) : Heap := (h.add (.row false z)).set h.next (.row false A)
theorem next_var (h : Heap) (z A : List V) : (h.var z A).next = h.next + 1 := rfl
theorem lim_var (h : Heap) (z A : List V) : (h.var z A).lim = h.lim := rfl
theorem lim0_var (h : Heap) (z A : List V) : (h.var z A).lim0 = h.lim0 := rfl
theorem splice_all {z A : List V} (he : z.length = A.length) : splice z 0 A = A := by
  simp only [splice, app_eq, takeL_eq, dropL_eq, lenL_eq, List.take_zero, List.nil_append, Nat.zero_add, ← he, List.drop_length, List.append_nil]
theorem store_var {h : Heap} (hn : h.lim0 ≤ h.next) (hl : h.lim ≤ h.next) {z A : List V} (ha : allCells A = true) (he : z.length = A.length) : (h.add (.row false z)).store (h.next, 0) A = some (h.var z A) := by
  rw [store_row (h := h.add (.row false z)) (o := false) (cs := z) (row_add_new (x := .row false z) hn) hl ha (by omega), splice_all he]; rfl
theorem row_var {h : Heap} (hn : h.lim0 ≤ h.next) (z A : List V) : (h.var z A).row h.next = some (false, A) := row_set_same (h := h.add (.row false z)) (x := .row false A) hn
theorem Grow.var {h : Heap} (hn : h.lim0 ≤ h.next) (z A : List V) : Grow h (h.var z A) := (Grow.add hn _).set (Nat.le_refl _) hn _

end Go.Abs
