/-
  ConfSames: the arguments, as the evaluator sees them.
-/
import Derived.Test.YtaliknnfbjehhaaDoorConfWalk
import Derived.Test.YtaliknnfbjehhaaDoorConfKnown
import Derived.Deep.Slices
import Derived.Deep.Strs
import Derived.ChangeSame
set_option linter.all false
namespace Go.Proofs.YtaliknnfbjehhaaDoor.CS
open Go.Abs Go.RowKit Go.Proofs Go.ChangeShapes Go.WideShapes Go.Deep
set_option maxRecDepth 100000

/-! ### memory that is only read -/

noncomputable def totOf (W : World) (k : Nat) : Nat :=
  match W.heap[k]? with
  | some (.cells C _ _) => C.size
  | _ => 0

theorem cell_block {W : World} {k o : Nat} {v : Value} (h : W.cell? ⟨k, o, none⟩ = some v) : ∃ C t fr, W.heap[k]? = some (.cells C t fr) ∧ C[o]? = some v := by
  unfold World.cell? at h
  split at h
  · rename_i c t fr hc
    exact ⟨c, t, fr, hc, by simpa using h⟩
  · cases h

noncomputable def phiOf (W : World) (N : Nat) (dom : Nat → Prop) (blk base : Nat → Nat) : Phi := { dom := dom, blk := blk, base := base, tot := fun b => totOf W (blk b), fz := N }
noncomputable def heapOfArgs (N : Nat) (cells : Nat → List V) : Heap := { ro := fun b => some (.row false (cells b)), lim0 := N, m := .leaf, next := N, lim := N }

theorem args_rel {W : World} {N : Nat} {dom : Nat → Prop} {blk base : Nat → Nat} {cells : Nat → List V} (hN : ∀ b, dom b → b < N) (hex : ∀ b, dom b → ∃ v, W.cell? ⟨blk b, base b, none⟩ = some v)
    (hcell : ∀ b, dom b → ∀ i v, (cells b)[i]? = some v → W.cell? ⟨blk b, base b + i, none⟩ = some (conc (phiOf W N dom blk base) v)) (hok : ∀ b, dom b → okL dom (cells b)) :
    Rel (phiOf W N dom blk base) (heapOfArgs N cells) W where
  blocks := fun b x hd hx => by
    have hlt := hN b hd
    have hx : some (Blk.row false (cells b)) = some x := by
      rw [Heap.get_eq, if_pos (show b < (heapOfArgs N cells).lim0 from hlt)] at hx
      exact hx
    simp only [Option.some.injEq] at hx
    subst hx
    obtain ⟨v0, h0⟩ := hex b hd
    obtain ⟨C, t, ⟨lo, hi⟩, h1, h2⟩ := cell_block h0
    have hsz : base b < C.size := (Array.getElem?_eq_some_iff.1 h2).1
    have hall : ∀ i v, (cells b)[i]? = some v → C[base b + i]? = some (conc (phiOf W N dom blk base) v) := fun i v hv => by
      have := hcell b hd i v hv
      obtain ⟨C', t', fr', k1, k2⟩ := cell_block this
      rw [h1] at k1
      simp only [Option.some.injEq, Obj.cells.injEq] at k1
      rw [k1.1]; exact k2
    refine ⟨C, t, lo, hi, h1, fun h => absurd hlt (Nat.not_lt.2 h), ?_, ?_, hall, hok b hd⟩
    · show C.size = totOf W (blk b)
      unfold totOf; rw [h1]
    · show base b + (cells b).length ≤ C.size
      by_cases hl : (cells b).length = 0
      · omega
      · have hlast := hall ((cells b).length - 1) _ (List.getElem?_eq_getElem (by omega))
        have := (Array.getElem?_eq_some_iff.1 hlast).1
        omega
  lt := hN
  size := fun b hd => by
    obtain ⟨v0, h0⟩ := hex b hd
    obtain ⟨C, t, fr, h1, -⟩ := cell_block h0
    exact (Array.getElem?_eq_some_iff.1 h1).1
  inj := fun b b' hd _ hl _ _ _ => absurd (hN b hd) (Nat.not_lt.2 hl)
  lims := ⟨Nat.le_refl _, Nat.le_refl _⟩
  fz := Nat.le_refl _

theorem args_cell {N : Nat} {cells : Nat → List V} {b : Nat} (hb : b < N) (i : Nat) : (heapOfArgs N cells).cell (b, i) = (cells b)[i]? := by
  have : (heapOfArgs N cells).row b = some (false, cells b) := by
    rw [row_get, Heap.get_eq, if_pos (show b < (heapOfArgs N cells).lim0 from hb)]
    rfl
  exact cell_row this i

/-! ### a slice -/

inductive SD where
  | nil
  | dang (a : Addr)
  | real (k o len cap : Nat)

def SD.v (b : Nat) : SD → V
  | nil => .slice none 0 0
  | dang a => .dang a
  | real _ _ len cap => .slice (some (b, 0)) len cap
def SD.len : SD → Nat
  | real _ _ len _ => len
  | _ => 0
def SD.isReal : SD → Prop
  | real _ _ _ _ => True
  | _ => False
def SD.blk : SD → Nat
  | real k _ _ _ => k
  | _ => 0
def SD.off : SD → Nat
  | real _ o _ _ => o
  | _ => 0
instance : Inhabited SD := ⟨.nil⟩

/-- A value is such a slice; its cells are these. -/
def SD.Is (W : World) (x : Value) (wd : Nat) (z : Nat → Value) : SD → Prop
  | nil => x = .slice none 0 0
  | dang a => x = .slice (some a) 0 0
  | real k o len cap => x = .slice (some ⟨k, o, none⟩) len cap ∧ len < 9223372036854775808 ∧ (∃ v, W.cell? ⟨k, o, none⟩ = some v) ∧ ∀ i, i < len * wd → W.cell? ⟨k, o + i, none⟩ = some (z i)

theorem SD.sl (s : SD) (b : Nat) : Sl (s.v b) b 0 s.len := by
  cases s with
  | nil => exact .nil _ _ _
  | dang a => exact .dang _ _ _
  | real k o len cap => exact .sl _ _ _ _
theorem SD.isCell (s : SD) (b : Nat) : (s.v b).isCell = true := by cases s <;> rfl
theorem SD.conc_v {s : SD} {W : World} {x : Value} {wd : Nat} {z : Nat → Value} (h : s.Is W x wd z) {φ : Phi} {b : Nat} (h1 : φ.blk b = s.blk) (h2 : φ.base b = s.off) : conc φ (s.v b) = x := by
  cases s with
  | nil => exact h.symm
  | dang a => exact h.symm
  | real k o len cap =>
    rw [h.1]
    show Value.slice (some (φ.addr (b, 0))) len cap = _
    simp only [Phi.addr, h1, h2, SD.blk, SD.off, Nat.add_zero]
theorem SD.ok_v {s : SD} {d : Nat → Prop} {b : Nat} (h : s.isReal → d b) : (s.v b).ok d := by
  cases s with
  | nil => trivial
  | dang a => trivial
  | real k o len cap => exact h trivial
theorem SD.len_lt {s : SD} {W : World} {x : Value} {wd : Nat} {z : Nat → Value} (h : s.Is W x wd z) : s.len < 9223372036854775808 := by
  cases s with
  | nil => show 0 < _; omega
  | dang a => show 0 < _; omega
  | real k o len cap => exact h.2.1
theorem SD.ex {s : SD} {W : World} {x : Value} {wd : Nat} {z : Nat → Value} (h : s.Is W x wd z) (hr : s.isReal) : ∃ v, W.cell? ⟨s.blk, s.off, none⟩ = some v := by
  cases s with
  | nil => exact hr.elim
  | dang a => exact hr.elim
  | real k o len cap => exact h.2.2.1
theorem SD.cellAt {s : SD} {W : World} {x : Value} {wd : Nat} {z : Nat → Value} (h : s.Is W x wd z) {i : Nat} (hi : i < s.len * wd) : W.cell? ⟨s.blk, s.off + i, none⟩ = some (z i) := by
  cases s with
  | nil => simp [SD.len] at hi
  | dang a => simp [SD.len] at hi
  | real k o len cap => exact h.2.2.2 i hi

section
variable {H : Type} {enc : TypeId × Value → H}

theorem ce_45 : Tryd.prog.cellsOf 45 = 3 := by kernel_rfl
theorem ce_38 : Tryd.prog.cellsOf 38 = 2 := by kernel_rfl
theorem ce_3 : Tryd.prog.cellsOf 3 = 1 := by kernel_rfl
theorem ce_24 : Tryd.prog.cellsOf 24 = 2 := by kernel_rfl
theorem ce_22 : Tryd.prog.cellsOf 22 = 1 := by kernel_rfl
theorem ce_43 : Tryd.prog.cellsOf 43 = 1 := by kernel_rfl
theorem ce_34 : Tryd.prog.cellsOf 34 = 1 := by kernel_rfl

/-- A slice opened: what stands in each of its cells. -/
theorem open_sd {W : World} {sp : Nat → Bool} (hsp : ∀ k, sp k = true) {t e : TypeId} {wd fuel : Nat} {x : Value} {y : DataW H × List MemPlace} (ht : Tryd.prog.underlying t = some (.slice e)) (hc : Tryd.prog.cellsOf e = wd) (hw : 0 < wd)
    (h : DataW.trod enc Tryd.prog W 0 sp true fuel t [x] = some y) : ∃ (s : SD) (z : Nat → Value), s.Is W x wd z ∧ ∀ i, i < s.len → ∃ n y', DataW.trod enc Tryd.prog W 0 sp true n e ((List.range wd).map fun j => z (i * wd + j)) = some y' := by
  rcases open_slice ht h with ⟨hx, -⟩ | ⟨a, len, cap, m, n, D, Pl, hx, -, hl, hm, hmm, -, hall⟩
  · simp only [List.cons.injEq, and_true] at hx
    exact ⟨.nil, fun _ => .bool true, hx, fun i hi => by cases hi⟩
  · simp only [List.cons.injEq, and_true] at hx
    rw [hsp] at hmm
    simp only [if_true] at hmm
    subst hmm
    rw [hc] at hall
    by_cases hcap : m = 0
    · have hl0 : len = 0 := by omega
      subst hcap; subst hl0
      exact ⟨.dang a, fun _ => .bool true, hx, fun i hi => by cases hi⟩
    · obtain ⟨cs0, h0, -⟩ := hall 0 (by omega)
      obtain ⟨-, hl0, hat0⟩ := World.cells?_some h0
      have hc0 := hat0 0 hw
      rw [Nat.zero_mul] at hc0
      have ha : (a.add 0).add 0 = a := by simp [Addr.add]
      rw [ha, List.getElem?_eq_getElem (l := cs0) (i := 0) (by omega)] at hc0
      have hspot := World.cell?_spot hc0
      obtain ⟨k, o, sp'⟩ := a
      simp only at hspot
      subst hspot
      have hadd : ∀ i, (⟨k, o, none⟩ : Addr).add i = ⟨k, o + i, none⟩ := fun i => by
        unfold Addr.add
        by_cases hi : i = 0
        · simp [hi]
        · simp [hi]
      have hcell : ∀ i, i < len * wd → ∃ v, W.cell? ⟨k, o + i, none⟩ = some v := fun i hi => by
        obtain ⟨cs', h1, -⟩ := hall (i / wd) (by have : i / wd < len := (Nat.div_lt_iff_lt_mul hw).2 hi; omega)
        obtain ⟨-, hl', hat'⟩ := World.cells?_some h1
        have hmod : i % wd < wd := Nat.mod_lt _ hw
        have := hat' (i % wd) hmod
        rw [Go.Deep.add_add, hadd, show i / wd * wd + i % wd = i from Nat.div_add_mod' i wd, List.getElem?_eq_getElem (by omega)] at this
        exact ⟨_, this⟩
      obtain ⟨z, hz⟩ := choose_lt (α := Value) hcell
      have hm2 : m ≤ 9223372036854775807 := hm
      have hlt : len < 9223372036854775808 := Nat.lt_succ_of_le (Nat.le_trans hl hm2)
      refine ⟨.real k o len m, z, ⟨hx, hlt, ⟨_, hc0⟩, hz⟩, fun i hi => ?_⟩
      have hi : i < len := hi
      obtain ⟨cs', h1, h2⟩ := hall i (by omega)
      obtain ⟨-, hl', hat'⟩ := World.cells?_some h1
      refine ⟨n, (D i, Pl i), ?_⟩
      have : cs' = (List.range wd).map fun j => z (i * wd + j) := by
        apply List.ext_getElem?
        intro j
        by_cases hj : j < wd
        · have h3 := hat' j hj
          rw [Go.Deep.add_add, hadd] at h3
          have h4 := hz (i * wd + j) (by
            have : (i + 1) * wd ≤ len * wd := Nat.mul_le_mul_right _ hi
            rw [Nat.succ_mul] at this; omega)
          rw [h4] at h3
          rw [← h3]
          simp [hj]
        · rw [List.getElem?_eq_none (by omega), List.getElem?_eq_none (by simp; omega)]
      rw [← this]
      exact h2

/-- Names. -/
theorem open_names {W : World} {sp : Nat → Bool} (hsp : ∀ k, sp k = true) {fuel : Nat} {x : Value} {y : DataW H × List MemPlace} (h : DataW.trod enc Tryd.prog W 0 sp true fuel 43 [x] = some y) :
    ∃ (s : SD) (z : Nat → Int), s.Is W x 1 fun i => .int .i64 (z i) := by
  obtain ⟨s, z, h1, h2⟩ := open_sd hsp Tryd.underlying43 ce_3 Nat.one_pos h
  have h3 : ∀ i, i < s.len → ∃ n : Int, z i = .int .i64 n := fun i hi => by
    obtain ⟨n, y', h4⟩ := h2 i hi
    obtain ⟨m, h5, -⟩ := DataW.trod_int Tryd.underlying3 h4
    simp only [List.range_one, List.map_cons, List.map_nil, List.cons.injEq, and_true] at h5
    exact ⟨m, by simpa using h5⟩
  obtain ⟨zz, hzz⟩ := choose_lt h3
  refine ⟨s, zz, ?_⟩
  cases s with
  | nil => exact h1
  | dang a => exact h1
  | real k o len cap => exact ⟨h1.1, h1.2.1, h1.2.2.1, fun i hi => by rw [h1.2.2.2 i hi, hzz i (by show i < len; omega)]⟩

/-- Shares. -/
theorem open_caps {W : World} {sp : Nat → Bool} (hsp : ∀ k, sp k = true) {fuel : Nat} {x : Value} {y : DataW H × List MemPlace} (h : DataW.trod enc Tryd.prog W 0 sp true fuel 34 [x] = some y) :
    ∃ (s : SD) (l m : Nat → Int), s.Is W x 2 fun i => .int .i64 (if i % 2 = 0 then l (i / 2) else m (i / 2)) := by
  obtain ⟨s, z, h1, h2⟩ := open_sd hsp Tryd.underlying34 ce_38 Nat.two_pos h
  have h3 : ∀ i, i < s.len → ∃ p : Int × Int, z (i * 2) = .int .i64 p.1 ∧ z (i * 2 + 1) = .int .i64 p.2 := fun i hi => by
    obtain ⟨n, y', h4⟩ := h2 i hi
    rw [show (List.range 2).map (fun j => z (i * 2 + j)) = [z (i * 2), z (i * 2 + 1)] from rfl] at h4
    obtain ⟨y0, y1, n', -, -, t0, t1⟩ := trod_struct2 Tryd.underlying38 h4
    obtain ⟨a, ha, -⟩ := DataW.trod_int (k := .i64) Tryd.underlying3 t0
    obtain ⟨b, hb, -⟩ := DataW.trod_int (k := .i64) Tryd.underlying3 t1
    rw [ce_3] at ha hb
    simp only [List.drop_zero, List.drop_succ_cons, List.take_succ_cons, List.take_zero, List.cons.injEq, and_true] at ha hb
    exact ⟨(a, b), ha, hb⟩
  obtain ⟨zz, hzz⟩ := choose_lt h3
  refine ⟨s, fun i => (zz i).1, fun i => (zz i).2, ?_⟩
  cases s with
  | nil => exact h1
  | dang a => exact h1
  | real k o len cap =>
    refine ⟨h1.1, h1.2.1, h1.2.2.1, fun i hi => ?_⟩
    rw [h1.2.2.2 i hi]
    have hi2 : i / 2 < len := by omega
    obtain ⟨q1, q2⟩ := hzz (i / 2) hi2
    show some (z i) = some (Value.int .i64 (if i % 2 = 0 then (zz (i / 2)).1 else (zz (i / 2)).2))
    by_cases hm : i % 2 = 0
    · rw [if_pos hm, ← q1, show i / 2 * 2 = i by omega]
    · rw [if_neg hm, ← q2, show i / 2 * 2 + 1 = i by omega]

end

/-- All of the first argument, opened. -/
structure Opened (W : World) where
  L : Int
  sq : SD
  sn : Nat → SD
  sc : Nat → SD
  us : Nat → Int
  nv : Nat → Nat → Int
  lv : Nat → Nat → Int
  mv : Nat → Nat → Int

section
variable {W : World} (o : Opened W)

def Opened.raw : RawD where
  L := o.L
  qs := o.sq.v 0
  bq := 0
  oq := 0
  n := o.sq.len
  nm i := (o.sn i).v (1 + 2 * i)
  cp i := (o.sc i).v (2 + 2 * i)
  us := o.us
  nb i := 1 + 2 * i
  no _ := 0
  nn i := (o.sn i).len
  nv := o.nv
  cb i := 2 + 2 * i
  co _ := 0
  cn i := (o.sc i).len
  lv := o.lv
  mv := o.mv
def Opened.N : Nat := 2 * o.sq.len + 2
def Opened.dom (b : Nat) : Prop := (b = 0 ∧ o.sq.isReal) ∨ (∃ i, i < o.sq.len ∧ b = 1 + 2 * i ∧ (o.sn i).isReal) ∨ ∃ i, i < o.sq.len ∧ b = 2 + 2 * i ∧ (o.sc i).isReal
def Opened.sd (b : Nat) : SD := if b = 0 then o.sq else if b % 2 = 1 then o.sn (b / 2) else o.sc (b / 2 - 1)
def Opened.blk (b : Nat) : Nat := (o.sd b).blk
def Opened.base (b : Nat) : Nat := (o.sd b).off
def Opened.cells (b : Nat) : List V :=
  if b = 0 then (List.range (o.sq.len * 3)).map fun k => if k % 3 = 0 then o.raw.nm (k / 3) else if k % 3 = 1 then o.raw.cp (k / 3) else .int .i64 (o.us (k / 3))
  else if b % 2 = 1 then (List.range ((o.sn (b / 2)).len * 1)).map fun j => .int .i64 (o.nv (b / 2) j)
  else (List.range ((o.sc (b / 2 - 1)).len * 2)).map fun j => if j % 2 = 0 then .int .i64 (o.lv (b / 2 - 1) (j / 2)) else .int .i64 (o.mv (b / 2 - 1) (j / 2))

theorem Opened.sd_n (i : Nat) : o.sd (1 + 2 * i) = o.sn i := by
  unfold Opened.sd; rw [if_neg (by omega), if_pos (by omega), show (1 + 2 * i) / 2 = i by omega]
theorem Opened.sd_c (i : Nat) : o.sd (2 + 2 * i) = o.sc i := by
  unfold Opened.sd; rw [if_neg (by omega), if_neg (by omega), show (2 + 2 * i) / 2 - 1 = i by omega]
theorem Opened.cells_n (i : Nat) : o.cells (1 + 2 * i) = (List.range ((o.sn i).len * 1)).map fun j => .int .i64 (o.nv i j) := by
  unfold Opened.cells; rw [if_neg (by omega), if_pos (by omega), show (1 + 2 * i) / 2 = i by omega]
theorem Opened.cells_c (i : Nat) : o.cells (2 + 2 * i) = (List.range ((o.sc i).len * 2)).map fun j => if j % 2 = 0 then .int .i64 (o.lv i (j / 2)) else .int .i64 (o.mv i (j / 2)) := by
  unfold Opened.cells; rw [if_neg (by omega), if_neg (by omega), show (2 + 2 * i) / 2 - 1 = i by omega]
theorem Opened.cells_q : o.cells 0 = (List.range (o.sq.len * 3)).map fun k => if k % 3 = 0 then o.raw.nm (k / 3) else if k % 3 = 1 then o.raw.cp (k / 3) else .int .i64 (o.us (k / 3)) := rfl

noncomputable def Opened.phi : Phi := phiOf W o.N o.dom o.blk o.base
noncomputable def Opened.heap : Heap := heapOfArgs o.N o.cells

theorem range_get {α : Type} (f : Nat → α) (n i : Nat) : ((List.range n).map f)[i]? = if i < n then some (f i) else none := by
  by_cases h : i < n
  · rw [if_pos h]; simp [h]
  · rw [if_neg h, List.getElem?_eq_none (by simp; omega)]

/-- What the reading says of it. -/
structure Opened.Ok (zq : Nat → Value) (x : Value) : Prop where
  q : o.sq.Is W x 3 zq
  n : ∀ i, i < o.sq.len → (o.sn i).Is W (zq (i * 3)) 1 fun j => .int .i64 (o.nv i j)
  c : ∀ i, i < o.sq.len → (o.sc i).Is W (zq (i * 3 + 1)) 2 fun j => .int .i64 (if j % 2 = 0 then o.lv i (j / 2) else o.mv i (j / 2))
  u : ∀ i, i < o.sq.len → zq (i * 3 + 2) = .int .i64 (o.us i)

variable {o}
theorem Opened.Ok.rel {zq : Nat → Value} {x : Value} (h : o.Ok zq x) : Rel o.phi o.heap W := by
  refine args_rel (fun b hb => ?_) (fun b hb => ?_) (fun b hb i v hv => ?_) (fun b hb => ?_)
  · unfold Opened.N
    rcases hb with ⟨e, -⟩ | ⟨i, hi, e, -⟩ | ⟨i, hi, e, -⟩ <;> omega
  · rcases hb with ⟨e, hr⟩ | ⟨i, hi, e, hr⟩ | ⟨i, hi, e, hr⟩
    · subst e; exact SD.ex h.q hr
    · subst e; show ∃ v, W.cell? ⟨(o.sd (1 + 2 * i)).blk, (o.sd (1 + 2 * i)).off, none⟩ = some v; rw [o.sd_n]; exact SD.ex (h.n i hi) hr
    · subst e; show ∃ v, W.cell? ⟨(o.sd (2 + 2 * i)).blk, (o.sd (2 + 2 * i)).off, none⟩ = some v; rw [o.sd_c]; exact SD.ex (h.c i hi) hr
  · rcases hb with ⟨e, hr⟩ | ⟨j, hj, e, hr⟩ | ⟨j, hj, e, hr⟩
    · subst e
      rw [o.cells_q, range_get] at hv
      split at hv
      · rename_i hi
        simp only [Option.some.injEq] at hv
        have hq := SD.cellAt h.q hi
        show W.cell? ⟨o.sq.blk, o.sq.off + i, none⟩ = some (conc o.phi v)
        rw [hq]
        have hi3 : i / 3 < o.sq.len := by omega
        rw [← hv]
        by_cases h0 : i % 3 = 0
        · rw [if_pos h0]
          refine congrArg some ?_
          rw [show i = i / 3 * 3 by omega]
          refine (SD.conc_v (s := o.sn (i / 3)) (h.n _ hi3) ?_ ?_).symm.trans (by rw [show i / 3 * 3 / 3 = i / 3 by omega]; rfl)
          · show (o.sd (1 + 2 * (i / 3))).blk = _; rw [o.sd_n]
          · show (o.sd (1 + 2 * (i / 3))).off = _; rw [o.sd_n]
        · rw [if_neg h0]
          by_cases h1 : i % 3 = 1
          · rw [if_pos h1]
            refine congrArg some ?_
            rw [show i = i / 3 * 3 + 1 by omega]
            refine (SD.conc_v (s := o.sc (i / 3)) (h.c _ hi3) ?_ ?_).symm.trans (by rw [show (i / 3 * 3 + 1) / 3 = i / 3 by omega]; rfl)
            · show (o.sd (2 + 2 * (i / 3))).blk = _; rw [o.sd_c]
            · show (o.sd (2 + 2 * (i / 3))).off = _; rw [o.sd_c]
          · rw [if_neg h1]
            refine congrArg some ?_
            have := h.u (i / 3) hi3
            rw [show i / 3 * 3 + 2 = i by omega] at this
            rw [this]; rfl
      · cases hv
    · subst e
      rw [o.cells_n, range_get] at hv
      split at hv
      · rename_i hi
        simp only [Option.some.injEq] at hv
        show W.cell? ⟨(o.sd (1 + 2 * j)).blk, (o.sd (1 + 2 * j)).off + i, none⟩ = some (conc o.phi v)
        rw [o.sd_n, SD.cellAt (h.n j hj) hi, ← hv]; rfl
      · cases hv
    · subst e
      rw [o.cells_c, range_get] at hv
      split at hv
      · rename_i hi
        simp only [Option.some.injEq] at hv
        show W.cell? ⟨(o.sd (2 + 2 * j)).blk, (o.sd (2 + 2 * j)).off + i, none⟩ = some (conc o.phi v)
        rw [o.sd_c, SD.cellAt (h.c j hj) hi, ← hv]
        by_cases hm : i % 2 = 0
        · rw [if_pos hm, if_pos hm]; rfl
        · rw [if_neg hm, if_neg hm]; rfl
      · cases hv
  · rw [okL_iff]
    intro v hv
    rcases hb with ⟨e, hr⟩ | ⟨j, hj, e, hr⟩ | ⟨j, hj, e, hr⟩
    · subst e
      rw [o.cells_q] at hv
      obtain ⟨k, hk, rfl⟩ := List.mem_map.1 hv
      have hk := List.mem_range.1 hk
      have hk3 : k / 3 < o.sq.len := by omega
      by_cases h0 : k % 3 = 0
      · rw [if_pos h0]; exact SD.ok_v fun hr => .inr (.inl ⟨_, hk3, rfl, hr⟩)
      · rw [if_neg h0]
        by_cases h1 : k % 3 = 1
        · rw [if_pos h1]; exact SD.ok_v fun hr => .inr (.inr ⟨_, hk3, rfl, hr⟩)
        · rw [if_neg h1]; trivial
    · subst e
      rw [o.cells_n] at hv
      obtain ⟨k, hk, rfl⟩ := List.mem_map.1 hv
      trivial
    · subst e
      rw [o.cells_c] at hv
      obtain ⟨k, hk, rfl⟩ := List.mem_map.1 hv
      by_cases hm : k % 2 = 0
      · rw [if_pos hm]; trivial
      · rw [if_neg hm]; trivial

theorem Opened.Ok.isRaw {zq : Nat → Value} {x : Value} (h : o.Ok zq x) : IsRaw o.heap o.raw := by
  have hN : o.N = 2 * o.sq.len + 2 := rfl
  have hq : ∀ k, k < o.sq.len * 3 → o.heap.cell (0, k) = some (if k % 3 = 0 then o.raw.nm (k / 3) else if k % 3 = 1 then o.raw.cp (k / 3) else .int .i64 (o.us (k / 3))) := fun k hk => by
    rw [Opened.heap, args_cell (by omega), o.cells_q, range_get, if_pos hk]
  exact
    { qs := SD.sl _ _
      cell := SD.isCell _ _
      small := SD.len_lt h.q
      names := fun i hi => by
        have hi : i < o.sq.len := hi
        show o.heap.cell (0, 0 + i * 3) = _
        rw [hq _ (by omega), if_pos (by omega), show (0 + i * 3) / 3 = i by omega]
      caps := fun i hi => by
        have hi : i < o.sq.len := hi
        show o.heap.cell (0, 0 + i * 3 + 1) = _
        rw [hq _ (by omega), if_neg (by omega), if_pos (by omega), show (0 + i * 3 + 1) / 3 = i by omega]
      user := fun i hi => by
        have hi : i < o.sq.len := hi
        show o.heap.cell (0, 0 + i * 3 + 2) = _
        rw [hq _ (by omega), if_neg (by omega), if_neg (by omega), show (0 + i * 3 + 2) / 3 = i by omega]; rfl
      nms := fun i _ => SD.sl _ _
      nsmall := fun i hi => SD.len_lt (h.n i hi)
      nvs := fun i hi j hj => by
        have hi : i < o.sq.len := hi
        have hj : j < (o.sn i).len := hj
        show o.heap.cell (1 + 2 * i, 0 + j * 1) = some (.int .i64 (o.nv i j))
        rw [Opened.heap, args_cell (by omega), o.cells_n, range_get, if_pos (by omega), show 0 + j * 1 = j by omega]
      cps := fun i _ => SD.sl _ _
      csmall := fun i hi => SD.len_lt (h.c i hi)
      lvs := fun i hi j hj => by
        have hi : i < o.sq.len := hi
        have hj : j < (o.sc i).len := hj
        show o.heap.cell (2 + 2 * i, 0 + j * 2) = some (.int .i64 (o.lv i j))
        rw [Opened.heap, args_cell (by omega), o.cells_c, range_get, if_pos (by omega), if_pos (by omega), show (0 + j * 2) / 2 = j by omega]
      mvs := fun i hi j hj => by
        have hi : i < o.sq.len := hi
        have hj : j < (o.sc i).len := hj
        show o.heap.cell (2 + 2 * i, 0 + j * 2 + 1) = some (.int .i64 (o.mv i j))
        rw [Opened.heap, args_cell (by omega), o.cells_c, range_get, if_pos (by omega), if_neg (by omega), show (0 + j * 2 + 1) / 2 = j by omega]
      oldq := by show 0 < o.N; omega
      oldn := fun i hi => by
        have hi : i < o.sq.len := hi
        show 1 + 2 * i < o.N; omega
      oldc := fun i hi => by
        have hi : i < o.sq.len := hi
        show 2 + 2 * i < o.N; omega }

theorem Opened.Ok.conc {zq : Nat → Value} {x : Value} (h : o.Ok zq x) : Go.Abs.conc o.phi o.raw.v = .agg #[.int .i64 o.L, x] := by
  have : Go.Abs.conc o.phi (o.sq.v 0) = x := SD.conc_v h.q rfl rfl
  show Value.agg (#[Value.int .i64 o.L, Go.Abs.conc o.phi (o.sq.v 0)]) = _
  rw [this]
theorem Opened.Ok.ok {zq : Nat → Value} {x : Value} (h : o.Ok zq x) : o.raw.v.ok o.phi.dom := by
  show True ∧ (o.sq.v 0).ok o.dom ∧ True
  exact ⟨trivial, SD.ok_v fun hr => .inl ⟨rfl, hr⟩, trivial⟩
end

section
variable {H : Type} {enc : TypeId × Value → H}

instance : Inhabited (SD × (Nat → Int) × SD × (Nat → Int) × (Nat → Int) × Int) := ⟨(default, fun _ => 0, default, fun _ => 0, fun _ => 0, 0)⟩

theorem open_raw {W : World} {base : Nat} {v : Value} {d : DataW H} {p : List MemPlace} (hval : Value.okWide Tryd.prog W .any base 24 v) (h : DataW.Trod enc Tryd.prog W 0 (fun _ => true) true 24 v d p) :
    ∃ (o : Opened W) (zq : Nat → Value) (x : Value), v = .agg #[.int .i64 o.L, x] ∧ o.Ok zq x := by
  obtain ⟨cs, rfl, hsz⟩ := okWide_struct Tryd.underlying24 hval
  obtain ⟨l⟩ := cs
  obtain ⟨fuel, hf⟩ := h
  match l, hsz.trans ce_24 with
  | [c0, c1], _ =>
    obtain ⟨y0, y1, n, -, -, t0, t1⟩ := trod_struct2 Tryd.underlying24 hf
    obtain ⟨L, hL, -⟩ := DataW.trod_int (k := .i64) Tryd.underlying3 t0
    rw [ce_3] at hL
    have hL : c0 = .int .i64 L := by simpa [Value.cells] using hL
    rw [ce_22] at t1
    have t1 : DataW.trod enc Tryd.prog W 0 (fun _ => true) true n 22 [c1] = some y1 := by simpa [Value.cells] using t1
    obtain ⟨sq, zq, hq, hel⟩ := open_sd (fun _ => rfl) Tryd.underlying22 ce_45 (show 0 < 3 from Nat.succ_pos 2) t1
    have hall : ∀ i, i < sq.len → ∃ t : SD × (Nat → Int) × SD × (Nat → Int) × (Nat → Int) × Int,
        t.1.Is W (zq (i * 3)) 1 (fun j => .int .i64 (t.2.1 j)) ∧ t.2.2.1.Is W (zq (i * 3 + 1)) 2 (fun j => .int .i64 (if j % 2 = 0 then t.2.2.2.1 (j / 2) else t.2.2.2.2.1 (j / 2))) ∧ zq (i * 3 + 2) = .int .i64 t.2.2.2.2.2 := fun i hi => by
      obtain ⟨m, y', h4⟩ := hel i hi
      rw [show (List.range 3).map (fun j => zq (i * 3 + j)) = [zq (i * 3), zq (i * 3 + 1), zq (i * 3 + 2)] from rfl] at h4
      obtain ⟨z0, z1, z2, m', -, -, u0, u1, u2⟩ := trod_struct3 Tryd.underlying45 h4
      rw [ce_43] at u0
      rw [ce_34] at u1
      obtain ⟨us, hus, -⟩ := DataW.trod_int (k := .i64) Tryd.underlying3 u2
      rw [ce_3] at hus
      have u0 : DataW.trod enc Tryd.prog W 0 (fun _ => true) true m' 43 [zq (i * 3)] = some z0 := by simpa using u0
      have u1 : DataW.trod enc Tryd.prog W 0 (fun _ => true) true m' 34 [zq (i * 3 + 1)] = some z1 := by simpa using u1
      obtain ⟨sn, nv, hn⟩ := open_names (fun _ => rfl) u0
      obtain ⟨sc, lv, mv, hc⟩ := open_caps (fun _ => rfl) u1
      exact ⟨(sn, nv, sc, lv, mv, us), hn, hc, by simpa using hus⟩
    obtain ⟨f, hf⟩ := choose_lt hall
    exact ⟨⟨L, sq, fun i => (f i).1, fun i => (f i).2.2.1, fun i => (f i).2.2.2.2.2, fun i => (f i).2.1, fun i => (f i).2.2.2.1, fun i => (f i).2.2.2.2.1⟩, zq, c1, by rw [hL],
      ⟨hq, fun i hi => (hf i hi).1, fun i hi => (hf i hi).2.1, fun i hi => (hf i hi).2.2⟩⟩

end
end Go.Proofs.YtaliknnfbjehhaaDoor.CS
