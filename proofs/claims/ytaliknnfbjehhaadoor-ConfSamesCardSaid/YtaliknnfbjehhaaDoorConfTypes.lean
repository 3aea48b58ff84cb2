/-
  ConfSames: facts on its types and operators.
-/
import Derived.Test.YtaliknnfbjehhaaDoorAbsExecC
import Derived.Test.YtaliknnfbjehhaaDoorProg
set_option linter.all false
namespace Go.Proofs.YtaliknnfbjehhaaDoor.CS
open Go.Abs Go.RowKit Go.Proofs
set_option maxRecDepth 100000

theorem fa_24_0 (b o : Nat) : fieldAddrA Tryd.prog 24 (.ptr (some (b, o))) 0 = some (.ptr (some (b, o))) := by kernel_rfl
theorem fa_24_1 (b o : Nat) : fieldAddrA Tryd.prog 24 (.ptr (some (b, o))) 1 = some (.ptr (some (b, o + 1))) := by kernel_rfl
theorem fa_30_0 (b o : Nat) : fieldAddrA Tryd.prog 30 (.ptr (some (b, o))) 0 = some (.ptr (some (b, o))) := by kernel_rfl
theorem fa_30_1 (b o : Nat) : fieldAddrA Tryd.prog 30 (.ptr (some (b, o))) 1 = some (.ptr (some (b, o + 1))) := by kernel_rfl
theorem fa_36_0 (b o : Nat) : fieldAddrA Tryd.prog 36 (.ptr (some (b, o))) 0 = some (.ptr (some (b, o))) := by kernel_rfl
theorem fa_36_1 (b o : Nat) : fieldAddrA Tryd.prog 36 (.ptr (some (b, o))) 1 = some (.ptr (some (b, o + 1))) := by kernel_rfl
theorem fa_36_2 (b o : Nat) : fieldAddrA Tryd.prog 36 (.ptr (some (b, o))) 2 = some (.ptr (some (b, o + 2))) := by kernel_rfl
theorem fa_38_0 (b o : Nat) : fieldAddrA Tryd.prog 38 (.ptr (some (b, o))) 0 = some (.ptr (some (b, o))) := by kernel_rfl
theorem fa_38_1 (b o : Nat) : fieldAddrA Tryd.prog 38 (.ptr (some (b, o))) 1 = some (.ptr (some (b, o + 1))) := by kernel_rfl
theorem fa_45_0 (b o : Nat) : fieldAddrA Tryd.prog 45 (.ptr (some (b, o))) 0 = some (.ptr (some (b, o))) := by kernel_rfl
theorem fa_45_1 (b o : Nat) : fieldAddrA Tryd.prog 45 (.ptr (some (b, o))) 1 = some (.ptr (some (b, o + 1))) := by kernel_rfl
theorem fa_45_2 (b o : Nat) : fieldAddrA Tryd.prog 45 (.ptr (some (b, o))) 2 = some (.ptr (some (b, o + 2))) := by kernel_rfl
theorem ld_3 (h : Heap) (a : Nat × Nat) : loadA Tryd.prog h 3 (.ptr (some a)) = h.cell a := Eq.trans (b := (match h.load a 1 with | some [v] => some v | _ => none)) (by kernel_rfl) (load_one h a)
theorem ld_9 (h : Heap) (a : Nat × Nat) : loadA Tryd.prog h 9 (.ptr (some a)) = h.cell a := Eq.trans (b := (match h.load a 1 with | some [v] => some v | _ => none)) (by kernel_rfl) (load_one h a)
theorem ld_22 (h : Heap) (a : Nat × Nat) : loadA Tryd.prog h 22 (.ptr (some a)) = h.cell a := Eq.trans (b := (match h.load a 1 with | some [v] => some v | _ => none)) (by kernel_rfl) (load_one h a)
theorem ld_27 (h : Heap) (a : Nat × Nat) : loadA Tryd.prog h 27 (.ptr (some a)) = h.cell a := Eq.trans (b := (match h.load a 1 with | some [v] => some v | _ => none)) (by kernel_rfl) (load_one h a)
theorem ld_28 (h : Heap) (a : Nat × Nat) : loadA Tryd.prog h 28 (.ptr (some a)) = h.cell a := Eq.trans (b := (match h.load a 1 with | some [v] => some v | _ => none)) (by kernel_rfl) (load_one h a)
theorem ld_34 (h : Heap) (a : Nat × Nat) : loadA Tryd.prog h 34 (.ptr (some a)) = h.cell a := Eq.trans (b := (match h.load a 1 with | some [v] => some v | _ => none)) (by kernel_rfl) (load_one h a)
theorem ld_43 (h : Heap) (a : Nat × Nat) : loadA Tryd.prog h 43 (.ptr (some a)) = h.cell a := Eq.trans (b := (match h.load a 1 with | some [v] => some v | _ => none)) (by kernel_rfl) (load_one h a)
theorem ld_24 (h : Heap) (b o : Nat) : loadA Tryd.prog h 24 (.ptr (some (b, o))) = two (h.cell (b, o)) (h.cell (b, o + 1)) := Eq.trans (b := (match h.load (b, o) 2 with | some cs => some (V.agg cs) | none => none)) (by kernel_rfl) (load_two h (b, o))
theorem ld_30 (h : Heap) (b o : Nat) : loadA Tryd.prog h 30 (.ptr (some (b, o))) = two (h.cell (b, o)) (h.cell (b, o + 1)) := Eq.trans (b := (match h.load (b, o) 2 with | some cs => some (V.agg cs) | none => none)) (by kernel_rfl) (load_two h (b, o))
theorem ld_38 (h : Heap) (b o : Nat) : loadA Tryd.prog h 38 (.ptr (some (b, o))) = two (h.cell (b, o)) (h.cell (b, o + 1)) := Eq.trans (b := (match h.load (b, o) 2 with | some cs => some (V.agg cs) | none => none)) (by kernel_rfl) (load_two h (b, o))
theorem ld_36 (h : Heap) (b o : Nat) : loadA Tryd.prog h 36 (.ptr (some (b, o))) = three (h.cell (b, o)) (h.cell (b, o + 1)) (h.cell (b, o + 2)) := Eq.trans (b := (match h.load (b, o) 3 with | some cs => some (V.agg cs) | none => none)) (by kernel_rfl) (load_three h (b, o))
theorem cells_one {v : V} (hv : v.isCell = true) : v.cells = [v] := by cases v <;> first | rfl | cases hv
theorem st_3 (h : Heap) (a : Nat × Nat) {v : V} (hv : v.isCell = true) : storeA Tryd.prog h 3 (.ptr (some a)) v = h.store a [v] := Eq.trans (b := (match Nat.beq (lenL v.cells) 1 with | true => h.store a v.cells | false => none)) (by kernel_rfl) (by rw [cells_one hv]; rfl)
theorem st_9 (h : Heap) (a : Nat × Nat) {v : V} (hv : v.isCell = true) : storeA Tryd.prog h 9 (.ptr (some a)) v = h.store a [v] := Eq.trans (b := (match Nat.beq (lenL v.cells) 1 with | true => h.store a v.cells | false => none)) (by kernel_rfl) (by rw [cells_one hv]; rfl)
theorem st_27 (h : Heap) (a : Nat × Nat) {v : V} (hv : v.isCell = true) : storeA Tryd.prog h 27 (.ptr (some a)) v = h.store a [v] := Eq.trans (b := (match Nat.beq (lenL v.cells) 1 with | true => h.store a v.cells | false => none)) (by kernel_rfl) (by rw [cells_one hv]; rfl)
theorem st_28 (h : Heap) (a : Nat × Nat) {v : V} (hv : v.isCell = true) : storeA Tryd.prog h 28 (.ptr (some a)) v = h.store a [v] := Eq.trans (b := (match Nat.beq (lenL v.cells) 1 with | true => h.store a v.cells | false => none)) (by kernel_rfl) (by rw [cells_one hv]; rfl)
theorem st_34 (h : Heap) (a : Nat × Nat) {v : V} (hv : v.isCell = true) : storeA Tryd.prog h 34 (.ptr (some a)) v = h.store a [v] := Eq.trans (b := (match Nat.beq (lenL v.cells) 1 with | true => h.store a v.cells | false => none)) (by kernel_rfl) (by rw [cells_one hv]; rfl)
theorem st_30 (h : Heap) (a : Nat × Nat) (x y : V) : storeA Tryd.prog h 30 (.ptr (some a)) (.agg [x, y]) = h.store a [x, y] := by kernel_rfl
theorem st_38 (h : Heap) (a : Nat × Nat) (x y : V) : storeA Tryd.prog h 38 (.ptr (some a)) (.agg [x, y]) = h.store a [x, y] := by kernel_rfl
theorem st_36 (h : Heap) (a : Nat × Nat) (x y z : V) : storeA Tryd.prog h 36 (.ptr (some a)) (.agg [x, y, z]) = h.store a [x, y, z] := by kernel_rfl
theorem ix_22 {v : V} {b o n i : Nat} (hv : Sl v b o n) (hi : i < n) : indexAddrA Tryd.prog 22 v (nI i) = some (.ptr (some (b, o + i * 3))) := by
  have h1 : (!ltI (.ofNat i) 0) = true := by rw [ltI_eq]; simp
  have h2 : ltI (.ofNat i) n = true := by rw [ltI_eq]; simpa using hi
  have hu : Tryd.prog.underlying 22 = Tryd.prog.underlying 22 := rfl
  cases hv with
  | sl _ _ _ c => exact Eq.trans (b := (match !ltI (.ofNat i) 0, ltI (.ofNat i) n with | true, true => some (V.ptr (some (b, o + i * 3))) | _, _ => none)) (by kernel_rfl) (by rw [h1, h2])
  | op _ _ _ e => exact Eq.trans (b := (match !ltI (.ofNat i) 0, ltI (.ofNat i) n with | true, true => some (V.ptr (some (b, o + i * 3))) | _, _ => none)) (by kernel_rfl) (by rw [h1, h2])
  | nil _ _ c => omega
  | dang _ _ _ => omega
theorem ln_22 {h : Heap} {v : V} {b o n : Nat} (hv : Sl v b o n) : lenOpA Tryd.prog h 22 v = some (nI n) := by cases hv <;> kernel_rfl
theorem ix_28 {v : V} {b o n i : Nat} (hv : Sl v b o n) (hi : i < n) : indexAddrA Tryd.prog 28 v (nI i) = some (.ptr (some (b, o + i * 3))) := by
  have h1 : (!ltI (.ofNat i) 0) = true := by rw [ltI_eq]; simp
  have h2 : ltI (.ofNat i) n = true := by rw [ltI_eq]; simpa using hi
  have hu : Tryd.prog.underlying 28 = Tryd.prog.underlying 28 := rfl
  cases hv with
  | sl _ _ _ c => exact Eq.trans (b := (match !ltI (.ofNat i) 0, ltI (.ofNat i) n with | true, true => some (V.ptr (some (b, o + i * 3))) | _, _ => none)) (by kernel_rfl) (by rw [h1, h2])
  | op _ _ _ e => exact Eq.trans (b := (match !ltI (.ofNat i) 0, ltI (.ofNat i) n with | true, true => some (V.ptr (some (b, o + i * 3))) | _, _ => none)) (by kernel_rfl) (by rw [h1, h2])
  | nil _ _ c => omega
  | dang _ _ _ => omega
theorem ln_28 {h : Heap} {v : V} {b o n : Nat} (hv : Sl v b o n) : lenOpA Tryd.prog h 28 v = some (nI n) := by cases hv <;> kernel_rfl
theorem ix_34 {v : V} {b o n i : Nat} (hv : Sl v b o n) (hi : i < n) : indexAddrA Tryd.prog 34 v (nI i) = some (.ptr (some (b, o + i * 2))) := by
  have h1 : (!ltI (.ofNat i) 0) = true := by rw [ltI_eq]; simp
  have h2 : ltI (.ofNat i) n = true := by rw [ltI_eq]; simpa using hi
  have hu : Tryd.prog.underlying 34 = Tryd.prog.underlying 34 := rfl
  cases hv with
  | sl _ _ _ c => exact Eq.trans (b := (match !ltI (.ofNat i) 0, ltI (.ofNat i) n with | true, true => some (V.ptr (some (b, o + i * 2))) | _, _ => none)) (by kernel_rfl) (by rw [h1, h2])
  | op _ _ _ e => exact Eq.trans (b := (match !ltI (.ofNat i) 0, ltI (.ofNat i) n with | true, true => some (V.ptr (some (b, o + i * 2))) | _, _ => none)) (by kernel_rfl) (by rw [h1, h2])
  | nil _ _ c => omega
  | dang _ _ _ => omega
theorem ln_34 {h : Heap} {v : V} {b o n : Nat} (hv : Sl v b o n) : lenOpA Tryd.prog h 34 v = some (nI n) := by cases hv <;> kernel_rfl
theorem ix_43 {v : V} {b o n i : Nat} (hv : Sl v b o n) (hi : i < n) : indexAddrA Tryd.prog 43 v (nI i) = some (.ptr (some (b, o + i * 1))) := by
  have h1 : (!ltI (.ofNat i) 0) = true := by rw [ltI_eq]; simp
  have h2 : ltI (.ofNat i) n = true := by rw [ltI_eq]; simpa using hi
  have hu : Tryd.prog.underlying 43 = Tryd.prog.underlying 43 := rfl
  cases hv with
  | sl _ _ _ c => exact Eq.trans (b := (match !ltI (.ofNat i) 0, ltI (.ofNat i) n with | true, true => some (V.ptr (some (b, o + i * 1))) | _, _ => none)) (by kernel_rfl) (by rw [h1, h2])
  | op _ _ _ e => exact Eq.trans (b := (match !ltI (.ofNat i) 0, ltI (.ofNat i) n with | true, true => some (V.ptr (some (b, o + i * 1))) | _, _ => none)) (by kernel_rfl) (by rw [h1, h2])
  | nil _ _ c => omega
  | dang _ _ _ => omega
theorem ln_43 {h : Heap} {v : V} {b o n : Nat} (hv : Sl v b o n) : lenOpA Tryd.prog h 43 v = some (nI n) := by cases hv <;> kernel_rfl
theorem ix_27 {v : V} {b o n i : Nat} (hv : Sl v b o n) (hi : i < n) : indexAddrA Tryd.prog 27 v (nI i) = some (.ptr (some (b, o + i * 1))) := by
  have h1 : (!ltI (.ofNat i) 0) = true := by rw [ltI_eq]; simp
  have h2 : ltI (.ofNat i) n = true := by rw [ltI_eq]; simpa using hi
  have hu : Tryd.prog.underlying 27 = Tryd.prog.underlying 27 := rfl
  cases hv with
  | sl _ _ _ c => exact Eq.trans (b := (match !ltI (.ofNat i) 0, ltI (.ofNat i) n with | true, true => some (V.ptr (some (b, o + i * 1))) | _, _ => none)) (by kernel_rfl) (by rw [h1, h2])
  | op _ _ _ e => exact Eq.trans (b := (match !ltI (.ofNat i) 0, ltI (.ofNat i) n with | true, true => some (V.ptr (some (b, o + i * 1))) | _, _ => none)) (by kernel_rfl) (by rw [h1, h2])
  | nil _ _ c => omega
  | dang _ _ _ => omega
theorem ln_27 {h : Heap} {v : V} {b o n : Nat} (hv : Sl v b o n) : lenOpA Tryd.prog h 27 v = some (nI n) := by cases hv <;> kernel_rfl
theorem eg_lss (t : TypeId) (x y : Operand) (a b : V) : eqGuardA Tryd.prog .lss t x y a b = true := rfl
theorem eg_gtr (t : TypeId) (x y : Operand) (a b : V) : eqGuardA Tryd.prog .gtr t x y a b = true := rfl
theorem eg_leq (t : TypeId) (x y : Operand) (a b : V) : eqGuardA Tryd.prog .leq t x y a b = true := rfl
theorem eg_add (t : TypeId) (x y : Operand) (a b : V) : eqGuardA Tryd.prog .add t x y a b = true := rfl
theorem eg_sub (t : TypeId) (x y : Operand) (a b : V) : eqGuardA Tryd.prog .sub t x y a b = true := rfl
theorem eg_rem (t : TypeId) (x y : Operand) (a b : V) : eqGuardA Tryd.prog .rem t x y a b = true := rfl
theorem eg_eql (x y : Operand) (a b : Int) : eqGuardA Tryd.prog .eql 3 x y (.int .i64 a) (.int .i64 b) = true := by kernel_rfl
theorem egn_eql (x y : Operand) (a b : Nat) : eqGuardA Tryd.prog .eql 3 x y (nI a) (nI b) = true := by kernel_rfl
theorem egs_eql (x y : Operand) (a b : List UInt8) : eqGuardA Tryd.prog .eql 9 x y (.str a) (.str b) = true := by kernel_rfl
theorem eg_neq (x y : Operand) (a b : Int) : eqGuardA Tryd.prog .neq 3 x y (.int .i64 a) (.int .i64 b) = true := by kernel_rfl
theorem egn_neq (x y : Operand) (a b : Nat) : eqGuardA Tryd.prog .neq 3 x y (nI a) (nI b) = true := by kernel_rfl
theorem egs_neq (x y : Operand) (a b : List UInt8) : eqGuardA Tryd.prog .neq 9 x y (.str a) (.str b) = true := by kernel_rfl
theorem egc (x y : Operand) (a b c d : Int) : eqGuardA Tryd.prog .neq 38 x y (.agg [.int .i64 a, .int .i64 b]) (.agg [.int .i64 c, .int .i64 d]) = true := by kernel_rfl
theorem bo_lss (a b : Nat) : binOpA Tryd.prog .lss 3 (nI a) (nI b) = some (.bool (decide (a < b))) := Eq.trans (b := some (.bool (ltI (.ofNat a) (.ofNat b)))) (by kernel_rfl) (by rw [ltI_nat])
theorem bo_gtr (a b : Nat) : binOpA Tryd.prog .gtr 3 (nI a) (nI b) = some (.bool (decide (b < a))) := Eq.trans (b := some (.bool (ltI (.ofNat b) (.ofNat a)))) (by kernel_rfl) (by rw [ltI_nat])
theorem bo_leq (a b : Nat) : binOpA Tryd.prog .leq 3 (nI a) (nI b) = some (.bool (decide (a ≤ b))) := Eq.trans (b := some (.bool (!ltI (.ofNat b) (.ofNat a)))) (by kernel_rfl) (by rw [ltI_nat]; by_cases h : a ≤ b <;> simp [h] <;> omega)
theorem bo_neq (a b : Nat) : binOpA Tryd.prog .neq 3 (nI a) (nI b) = some (.bool (decide (a ≠ b))) := Eq.trans (b := some (.bool (!eqI (.ofNat a) (.ofNat b)))) (by kernel_rfl) (by rw [eqI_eq]; simp only [Int.ofNat.injEq, decide_not, ne_eq])
theorem bo_eqln (a b : Nat) : binOpA Tryd.prog .eql 3 (nI a) (nI b) = some (.bool (decide (a = b))) := Eq.trans (b := some (.bool (eqI (.ofNat a) (.ofNat b)))) (by kernel_rfl) (by rw [eqI_eq]; simp only [Int.ofNat.injEq])
theorem bo_eql (a b : Int) : binOpA Tryd.prog .eql 3 (.int .i64 a) (.int .i64 b) = some (.bool (decide (a = b))) := Eq.trans (b := some (.bool (eqI a b))) (by kernel_rfl) (by rw [eqI_eq])
theorem bo_lssi (a : Int) (b : Nat) : binOpA Tryd.prog .lss 3 (.int .i64 a) (nI b) = some (.bool (decide (a < b))) := Eq.trans (b := some (.bool (ltI a (.ofNat b)))) (by kernel_rfl) (by rw [ltI_eq]; rfl)
theorem bo_addi (a : Int) (b : Nat) : binOpA Tryd.prog .add 3 (.int .i64 a) (nI b) = some (.int .i64 (wrapI .i64 (a + b))) := by kernel_rfl
theorem bo_subi (a : Int) (b : Nat) : binOpA Tryd.prog .sub 3 (.int .i64 a) (nI b) = some (.int .i64 (wrapI .i64 (a - b))) := by kernel_rfl
theorem bo_rem (a : Int) {b : Nat} (h : 0 < b) : binOpA Tryd.prog .rem 3 (.int .i64 a) (nI b) = some (.int .i64 (a.tmod b)) := Eq.trans (b := (match eqI (.ofNat b) 0 with | true => none | false => some (.int .i64 (a.tmod (.ofNat b))))) (by kernel_rfl) (by rw [eqI_eq, show decide (Int.ofNat b = 0) = false by simp; omega]; rfl)
theorem bo_addn {a b : Nat} (h : a + b < 9223372036854775808) : binOpA Tryd.prog .add 3 (nI a) (nI b) = some (nI (a + b)) := Eq.trans (b := some (.int .i64 (wrapI .i64 (Int.add (.ofNat a) (.ofNat b))))) (by kernel_rfl) (by rw [wrapI_eq, show Int.add (.ofNat a) (.ofNat b) = Int.ofNat (a + b) from rfl, wrap_in64 (by simp only [Int.ofNat_eq_natCast]; omega)]; rfl)
theorem bo_subn {a b : Nat} (h : b ≤ a) (ha : a < 9223372036854775808) : binOpA Tryd.prog .sub 3 (nI a) (nI b) = some (nI (a - b)) := Eq.trans (b := some (.int .i64 (wrapI .i64 (Int.sub (.ofNat a) (.ofNat b))))) (by kernel_rfl) (by rw [wrapI_eq, show Int.sub (.ofNat a) (.ofNat b) = Int.ofNat (a - b) by show (Int.ofNat a - Int.ofNat b : Int) = _; simp only [Int.ofNat_eq_natCast]; omega, wrap_in64 (by simp only [Int.ofNat_eq_natCast]; omega)]; rfl)
theorem bs_lss (a b : List UInt8) : binOpA Tryd.prog .lss 9 (.str a) (.str b) = some (.bool (ltS a b)) := by kernel_rfl
theorem bs_eql (a b : List UInt8) : binOpA Tryd.prog .eql 9 (.str a) (.str b) = some (.bool (eqS a b)) := by kernel_rfl
theorem bs_neq (a b : List UInt8) : binOpA Tryd.prog .neq 9 (.str a) (.str b) = some (.bool (!eqS a b)) := by kernel_rfl
theorem bc_neq (a b c d : Int) : binOpA Tryd.prog .neq 38 (.agg [.int .i64 a, .int .i64 b]) (.agg [.int .i64 c, .int .i64 d]) = some (.bool (!(eqI a c && eqI b d))) := Eq.trans (b := (match (match eqI a c with | true => (match eqI b d with | true => some true | false => some false) | false => some false) with | some r => some (V.bool !r) | none => none)) (by kernel_rfl) (by cases eqI a c <;> cases eqI b d <;> rfl)
theorem uo_not (b : Bool) : unOpA .not (.bool b) = some (.bool !b) := rfl
theorem ec_0 (env : Env) : evalA env (.const (.int .i64 0)) = some (nI 0) := rfl
theorem ec_1 (env : Env) : evalA env (.const (.int .i64 1)) = some (nI 1) := rfl
theorem ec_2 (env : Env) : evalA env (.const (.int .i64 2)) = some (nI 2) := rfl
theorem ec_3 (env : Env) : evalA env (.const (.int .i64 3)) = some (nI 3) := rfl
theorem ec_4 (env : Env) : evalA env (.const (.int .i64 4)) = some (nI 4) := rfl
theorem ec_5 (env : Env) : evalA env (.const (.int .i64 5)) = some (nI 5) := rfl
theorem ec_6 (env : Env) : evalA env (.const (.int .i64 6)) = some (nI 6) := rfl
theorem ec_8 (env : Env) : evalA env (.const (.int .i64 8)) = some (nI 8) := rfl
theorem ec_16 (env : Env) : evalA env (.const (.int .i64 16)) = some (nI 16) := rfl
theorem ec_20 (env : Env) : evalA env (.const (.int .i64 20)) = some (nI 20) := rfl
theorem ec_10000 (env : Env) : evalA env (.const (.int .i64 10000)) = some (nI 10000) := rfl
theorem ec_10001 (env : Env) : evalA env (.const (.int .i64 10001)) = some (nI 10001) := rfl
theorem ec_1000000 (env : Env) : evalA env (.const (.int .i64 1000000)) = some (nI 1000000) := rfl
theorem ec_str (env : Env) (l : List UInt8) : evalA env (.const (.string (str l))) = some (.str l) := rfl
theorem ec_bool (env : Env) (b : Bool) : evalA env (.const (.bool b)) = some (.bool b) := rfl
theorem ec_nil (env : Env) (n c : Nat) : evalA env (.const (.slice none n c)) = some (.slice none n c) := rfl
theorem ec_tmp (env : Env) (t : Nat) : evalA env (.tmp t) = env.get t := rfl
theorem ec_func (env : Env) (f : Nat) : evalA env (.func f) = some (.func (.func f) [] []) := rfl
theorem so_move (x : Operand) (env : Env) (h : Heap) : stepOp Tryd.prog (.move x) env h = valueS (evalA env x) h := rfl
theorem so_assign (x : Operand) (env : Env) (h : Heap) : stepOp Tryd.prog (.assign x) env h = valueS (evalA env x) h := rfl
def pickS (c : Option V) (a b : Option V) (h : Heap) : Option Step := match c with | some (.bool true) => valueS a h | some (.bool false) => valueS b h | _ => none
theorem pickS_true (a b : Option V) (h : Heap) : pickS (some (.bool true)) a b h = valueS a h := rfl
theorem pickS_false (a b : Option V) (h : Heap) : pickS (some (.bool false)) a b h = valueS b h := rfl
theorem so_pick (c a b : Operand) (env : Env) (h : Heap) : stepOp Tryd.prog (.pick c a b) env h = pickS (evalA env c) (evalA env a) (evalA env b) h := by
  show sPick c a b env h = _
  unfold sPick pickS
  split
  · rename_i t ht; cases t <;> simp only [ht]
  · rename_i hn; split
    · rename_i ht; exact (hn _ ht).elim
    · rename_i ht; exact (hn _ ht).elim
    · rfl
noncomputable def s1 (f : V → Option Step) : Option V → Option Step | some a => f a | none => none
theorem s1_some (f : V → Option Step) (a : V) : s1 f (some a) = f a := rfl
noncomputable def s2 (f : V → V → Option Step) : Option V → Option V → Option Step | some a, some b => f a b | _, _ => none
theorem s2_some (f : V → V → Option Step) (a b : V) : s2 f (some a) (some b) = f a b := rfl
theorem so_load (t : TypeId) (a : Operand) (env : Env) (h : Heap) : stepOp Tryd.prog (.load t a) env h = s1 (fun a => valueS (loadA Tryd.prog h t a) h) (evalA env a) := by
  show sLoad Tryd.prog t a env h = _
  unfold sLoad s1; split <;> simp_all
theorem so_store (t : TypeId) (a x : Operand) (env : Env) (h : Heap) : stepOp Tryd.prog (.store t a x) env h = s2 (fun a x => skipS (storeA Tryd.prog h t a x)) (evalA env a) (evalA env x) := by
  show sStore Tryd.prog t a x env h = _
  unfold sStore s2; split <;> simp_all
noncomputable def binS (op : BinOp) (t : TypeId) (x y : Operand) (a b : V) (h : Heap) : Option Step := match eqGuardA Tryd.prog op t x y a b with | true => valueS (binOpA Tryd.prog op t a b) h | false => none
theorem binS_true {op : BinOp} {t : TypeId} {x y : Operand} {a b : V} {h : Heap} (hg : eqGuardA Tryd.prog op t x y a b = true) : binS op t x y a b h = valueS (binOpA Tryd.prog op t a b) h := by unfold binS; rw [hg]
theorem so_bin (op : BinOp) (t u : TypeId) (x y : Operand) (env : Env) (h : Heap) : stepOp Tryd.prog (.binOp op t x y u) env h = s2 (fun a b => binS op t x y a b h) (evalA env x) (evalA env y) := by
  show sBinOp Tryd.prog op t x y u env h = _
  unfold sBinOp s2 binS; cases evalA env x <;> cases evalA env y <;> rfl
theorem so_un (op : UnOp) (t : TypeId) (x : Operand) (env : Env) (h : Heap) : stepOp Tryd.prog (.unOp op t x) env h = s1 (fun a => valueS (unOpA op a) h) (evalA env x) := by
  show sUnOp op t x env h = _
  unfold sUnOp s1; split <;> simp_all
theorem so_fa (t : TypeId) (x : Operand) (i : Nat) (env : Env) (h : Heap) : stepOp Tryd.prog (.fieldAddr t x i) env h = s1 (fun a => valueS (fieldAddrA Tryd.prog t a i) h) (evalA env x) := by
  show sFieldAddr Tryd.prog t x i env h = _
  unfold sFieldAddr s1; split <;> simp_all
theorem so_ix (t : TypeId) (x y : Operand) (env : Env) (h : Heap) : stepOp Tryd.prog (.indexAddr t x y) env h = s2 (fun a b => valueS (indexAddrA Tryd.prog t a b) h) (evalA env x) (evalA env y) := by
  show sIndexAddr Tryd.prog t x y env h = _
  unfold sIndexAddr s2; split <;> simp_all
theorem so_box (t : TypeId) (x : Operand) (env : Env) (h : Heap) : stepOp Tryd.prog (.box t x) env h = s1 (fun v => heapS (newA h v)) (evalA env x) := by
  show sBox t x env h = _
  unfold sBox s1; split <;> simp_all
noncomputable def ea (env : Env) : List Operand → Option (List V) | [] => some [] | x :: l => match evalA env x, ea env l with | some v, some vs => some (v :: vs) | _, _ => none
theorem evals_ea (env : Env) (l : List Operand) : evalsA env l = ea env l := by
  induction l with
  | nil => rfl
  | cons x l ih =>
    rw [ea, ← ih]; rfl
noncomputable def ep (env : Env) : List (Nat × Operand) → Option (List (Nat × V)) | [] => some [] | (i, x) :: l => match ep env l, evalA env x with | some vs, some v => some ((i, v) :: vs) | _, _ => none
theorem parts_ep (env : Env) (l : List (Nat × Operand)) : evalParts env l = ep env l := by
  induction l with
  | nil => rfl
  | cons x l ih =>
    obtain ⟨i, x⟩ := x
    rw [ep, ← ih]
    show (match (i, x), evalParts env l with | (i, x), some vs => (match evalA env x with | some v => some ((i, v) :: vs) | none => none) | _, none => none) = _
    cases evalParts env l with
    | none => cases evalA env x <;> rfl
    | some vs => cases hx : evalA env x <;> simp only [hx]
noncomputable def sl1 (f : List V → Option Step) : Option (List V) → Option Step | some l => f l | none => none
theorem sl1_some (f : List V → Option Step) (l : List V) : sl1 f (some l) = f l := rfl
noncomputable def sp1 (f : List (Nat × V) → Option Step) : Option (List (Nat × V)) → Option Step | some l => f l | none => none
theorem sp1_some (f : List (Nat × V) → Option Step) (l : List (Nat × V)) : sp1 f (some l) = f l := rfl
theorem so_builtin (b : Builtin) (xs : Array Operand) (ts : Array TypeId) (env : Env) (h : Heap) : stepOp Tryd.prog (.call ⟨.builtin b, xs, ts⟩) env h = sl1 (fun vs => heapS (builtinA Tryd.prog h b ts.toList vs)) (ea env xs.toList) := by
  show sBuiltin Tryd.prog b xs ts env h = _
  rw [← evals_ea]; unfold sBuiltin sl1; split <;> simp_all
noncomputable def callS (fn : Fn) (a b vs : List V) : Option Step := targetA Tryd.prog fn a b vs
noncomputable def callV (f : V) (vs : List V) : Option Step := match f with | .func fn a b => targetA Tryd.prog fn a b vs | _ => none
theorem callV_func (f : FuncId) (vs : List V) : callV (.func (.func f) [] []) vs = some (.call f (app (app [] vs) [])) := rfl
theorem app_nil (vs : List V) : app (app [] vs) [] = vs := by rw [app_eq, app_eq]; simp
theorem so_call (f : Operand) (xs : Array Operand) (ts : Array TypeId) (env : Env) (h : Heap) : stepOp Tryd.prog (.call ⟨.value f, xs, ts⟩) env h = s1 (fun f => sl1 (fun vs => callV f vs) (ea env xs.toList)) (evalA env f) := by
  show sValue Tryd.prog f xs env h = _
  rw [← evals_ea]; unfold sValue s1
  cases evalA env f with
  | none => rfl
  | some v => cases evalsA env xs.toList with
    | none => cases v <;> rfl
    | some vs => cases v <;> rfl
theorem so_build (t : TypeId) (ps : Array (Nat × Operand)) (env : Env) (h : Heap) : stepOp Tryd.prog (.build t ps) env h = sp1 (fun vs => valueS (buildA Tryd.prog t vs) h) (ep env ps.toList) := by
  show sBuild Tryd.prog t ps env h = _
  rw [← parts_ep]; unfold sBuild sp1; split <;> simp_all
theorem so_buildSlice (t : TypeId) (n : Nat) (ps : Array (Nat × Operand)) (env : Env) (h : Heap) : stepOp Tryd.prog (.buildSlice t n ps) env h = sp1 (fun vs => heapS (buildSliceA Tryd.prog h t n vs)) (ep env ps.toList) := by
  show sBuildSlice Tryd.prog t n ps env h = _
  rw [← parts_ep]; unfold sBuildSlice sp1; split <;> simp_all
noncomputable def eo (env : Env) : Option Operand → Option (Option V) | none => some none | some x => match evalA env x with | some v => some (some v) | none => none
noncomputable def s4 (f : V → Option V → Option V → Option V → Option Step) : Option V → Option (Option V) → Option (Option V) → Option (Option V) → Option Step | some x, some a, some b, some c => f x a b c | _, _, _, _ => none
theorem s4_some (f : V → Option V → Option V → Option V → Option Step) (x : V) (a b c : Option V) : s4 f (some x) (some a) (some b) (some c) = f x a b c := rfl
theorem eo_none (env : Env) : eo env none = some none := rfl
theorem eo_map (env : Env) (x : Operand) : eo env (some x) = (evalA env x).map some := by simp only [eo]; cases evalA env x <;> rfl
theorem eo_some {env : Env} {x : Operand} {v : V} (h : evalA env x = some v) : eo env (some x) = some (some v) := by simp only [eo, h]
theorem so_slice (t : TypeId) (x : Operand) (lo hi mx : Option Operand) (env : Env) (h : Heap) : stepOp Tryd.prog (.slice t x lo hi mx) env h = s4 (fun x lo hi mx => heapS (sliceA Tryd.prog h t x lo hi mx)) (evalA env x) (eo env lo) (eo env hi) (eo env mx) := by
  show sSlice Tryd.prog t x lo hi mx env h = _
  have e : ∀ y, evalOpt env y = eo env y := fun y => by cases y <;> rfl
  unfold sSlice s4
  rw [e, e, e]
  cases evalA env x <;> cases eo env lo <;> cases eo env hi <;> cases eo env mx <;> rfl
theorem so_alloc_30 (env : Env) (h : Heap) : stepOp Tryd.prog (.alloc 30) env h = some (.value (.ptr (some (h.next, 0))) (h.add (.row false [.slice none 0 0, .slice none 0 0]))) := by kernel_rfl
theorem so_alloc_36 (env : Env) (h : Heap) : stepOp Tryd.prog (.alloc 36) env h = some (.value (.ptr (some (h.next, 0))) (h.add (.row false [.str [], .slice none 0 0, nI 0]))) := by kernel_rfl
theorem so_alloc_38 (env : Env) (h : Heap) : stepOp Tryd.prog (.alloc 38) env h = some (.value (.ptr (some (h.next, 0))) (h.add (.row false [nI 0, nI 0]))) := by kernel_rfl
theorem valueS_some (v : V) (h : Heap) : valueS (some v) h = some (.value v h) := rfl
theorem heapS_some (v : V) (h : Heap) : heapS (some (v, h)) = some (.value v h) := rfl
theorem skipS_some (h : Heap) : skipS (some h) = some (.skip h) := rfl
theorem bi_len (h : Heap) (t : TypeId) (x : V) : builtinA Tryd.prog h .len [t] [x] = (lenOpA Tryd.prog h t x).map (fun v => (v, h)) := by show (match lenOpA Tryd.prog h t x with | some v => some (v, h) | none => none) = _; cases lenOpA Tryd.prog h t x <;> rfl

variable {call : FuncId → List V → Heap → Option Rets}
theorem wp_nil (env : Env) (h : Heap) (Q : Env → Heap → Prop) : WP Tryd.prog call [] env h Q = Q env h := by rw [WP]
def stepK (call : FuncId → List V → Heap → Option Rets) (l : List LOp) (d : Option Tmp) (env : Env) (h : Heap) (Q : Env → Heap → Prop) (s : Option Step) : Prop := stepW call h (fun v h' => WP Tryd.prog call l (putL env d v) h' Q) s
def stepO (call : FuncId → List V → Heap → Option Rets) (l : List LOp) (d : Option Tmp) (env : Env) (h : Heap) (Q : Env → Heap → Prop) (s : Option Step) : Prop := stepW call h.up (fun v h' => WP Tryd.prog call l (putL env d v) (h'.down h.lim) Q) s
theorem wp_go (d : Option Tmp) (op : Op) (l : List LOp) (env : Env) (h : Heap) (Q : Env → Heap → Prop) : WP Tryd.prog call ((true, d, op, none) :: l) env h Q = stepK call l d env h Q (stepOp Tryd.prog op env h) := by rw [WP]; rfl
theorem wp_open (d : Option Tmp) (op : Op) (l : List LOp) (env : Env) (h : Heap) (Q : Env → Heap → Prop) : WP Tryd.prog call ((false, d, op, none) :: l) env h Q = stepO call l d env h Q (stepOp Tryd.prog op env h.up) := by rw [WP]; rfl
def guardK (call : FuncId → List V → Heap → Option Rets) (b : Bool) (d : Option Tmp) (op : Op) (l : List LOp) (env : Env) (h : Heap) (Q : Env → Heap → Prop) (t : Option V) (w : Bool) : Prop :=
  match t with
  | some (.bool t) => (match t == w with | true => WP Tryd.prog call ((b, d, op, none) :: l) env h Q | false => WP Tryd.prog call l (putL env d (.tuple [])) h Q)
  | _ => False
variable (b : Bool) (d : Option Tmp) (op : Op) (l : List LOp) (env : Env) (h : Heap) (Q : Env → Heap → Prop)
theorem guardK_tt : guardK call b d op l env h Q (some (.bool true)) true = WP Tryd.prog call ((b, d, op, none) :: l) env h Q := rfl
theorem guardK_ff : guardK call b d op l env h Q (some (.bool false)) false = WP Tryd.prog call ((b, d, op, none) :: l) env h Q := rfl
theorem guardK_tf : guardK call b d op l env h Q (some (.bool true)) false = WP Tryd.prog call l (putL env d (.tuple [])) h Q := rfl
theorem guardK_ft : guardK call b d op l env h Q (some (.bool false)) true = WP Tryd.prog call l (putL env d (.tuple [])) h Q := rfl
theorem wp_guard (g : Tmp) (w : Bool) : WP Tryd.prog call ((b, d, op, some (g, w)) :: l) env h Q = guardK call b d op l env h Q (env.get g) w := by rw [WP]; unfold guardK; rw [WP]; rfl
theorem sk_value (h' : Heap) (v : V) : stepK call l d env h Q (some (.value v h')) = WP Tryd.prog call l (putL env d v) h' Q := rfl
theorem sk_skip (h' : Heap) : stepK call l d env h Q (some (.skip h')) = WP Tryd.prog call l (putL env d (.tuple [])) h' Q := rfl
theorem so_value (h' : Heap) (v : V) : stepO call l d env h Q (some (.value v h')) = WP Tryd.prog call l (putL env d v) (h'.down h.lim) Q := rfl
theorem so_skip (h' : Heap) : stepO call l d env h Q (some (.skip h')) = WP Tryd.prog call l (putL env d (.tuple [])) (h'.down h.lim) Q := rfl
variable {b d op l env h Q}
theorem sk_call {h' : Heap} {v : V} {f : FuncId} {args : List V} (hc : call f args h = some [(v, h')]) : stepK call l d env h Q (some (.call f args)) = WP Tryd.prog call l (putL env d v) h' Q := by simp only [stepK, stepW, hc]
theorem so_call' {h' : Heap} {v : V} {f : FuncId} {args : List V} (hc : call f args h.up = some [(v, h')]) : stepO call l d env h Q (some (.call f args)) = WP Tryd.prog call l (putL env d v) (h'.down h.lim) Q := by simp only [stepO, stepW, hc]
theorem put_some (env : Env) (d : Nat) (v : V) : putL env (some d) v = env.set d v := rfl
theorem put_none (env : Env) (v : V) : putL env none v = env := rfl

end Go.Proofs.YtaliknnfbjehhaaDoor.CS
