/-
  FedSubmits: the beginning, the heads of the rounds; each written state names what it holds (all up).
-/
import Derived.Test.YtmljpohgglkkpaaGreatDoorLitsU
set_option linter.all false
namespace Go.Proofs.YtmljpohgglkkpaaGreatDoor.FS
open Go.Abs
set_option maxRecDepth 1000000
noncomputable def AU : Abs.Lit := { env := [(1, .bool false)], next := 46, blks := [] }
theorem aU (n : Int) : runLit ev 91 (c1 body) ⟨[], [], 0⟩ [(0, i n), (1, .bool false)] ⟨[], [], 0⟩ [0, 1] = some (true, [[some (i n), some (.bool false)]]) := by kernel_rfl
theorem knU (n : Int) : runLit ev 91 r1if ⟨[], [], 0⟩ [(0, i n), (1, .bool false)] AU [0] = some (true, [[some (i n)]]) := by kernel_rfl
theorem nwU (n : Int) : runLit ev 91 r3 AU [(0, i n)] P3U [0] = some (true, [[some (i n)]]) := by kernel_rfl
theorem onU (n : Int) : runLit ev 91 r4 P3U [(0, i n)] P4U [0] = some (true, [[some (i n)]]) := by kernel_rfl
theorem beU (n : Int) : runLit ev 91 r6 P4U [(0, i n)] LU0 [0] = some (true, [[some (i n)]]) := by kernel_rfl
theorem c_AU : closedL AU = true := by kernel_rfl
theorem c_P3U : closedL P3U = true := by kernel_rfl
theorem c_P4U : closedL P4U = true := by kernel_rfl
theorem c_LU0 : closedL LU0 = true := by kernel_rfl
theorem hdU0 (mI : Int) : runLit ev 91 r7 LU0 [(0, i mI)] LU0 [0, 33] = some (true, [[some (i mI), some (.bool (ltI 0 mI))]]) := by kernel_rfl
theorem c_LU1 : closedL LU1 = true := by kernel_rfl
theorem hdU1 (mI : Int) : runLit ev 91 r7 LU1 [(0, i mI)] LU1 [0, 33] = some (true, [[some (i mI), some (.bool (ltI 1 mI))]]) := by kernel_rfl
theorem c_LU2 : closedL LU2 = true := by kernel_rfl
theorem hdU2 (mI : Int) : runLit ev 91 r7 LU2 [(0, i mI)] LU2 [0, 33] = some (true, [[some (i mI), some (.bool (ltI 2 mI))]]) := by kernel_rfl
theorem c_LU3 : closedL LU3 = true := by kernel_rfl
theorem hdU3 (mI : Int) : runLit ev 91 r7 LU3 [(0, i mI)] LU3 [0, 33] = some (true, [[some (i mI), some (.bool (ltI 3 mI))]]) := by kernel_rfl
theorem c_LU4 : closedL LU4 = true := by kernel_rfl
theorem hdU4 (mI : Int) : runLit ev 91 r7 LU4 [(0, i mI)] LU4 [0, 33] = some (true, [[some (i mI), some (.bool (ltI 4 mI))]]) := by kernel_rfl
theorem c_LU5 : closedL LU5 = true := by kernel_rfl
theorem hdU5 (mI : Int) : runLit ev 91 r7 LU5 [(0, i mI)] LU5 [0, 33] = some (true, [[some (i mI), some (.bool (ltI 5 mI))]]) := by kernel_rfl
theorem c_LU6 : closedL LU6 = true := by kernel_rfl
theorem hdU6 (mI : Int) : runLit ev 91 r7 LU6 [(0, i mI)] LU6 [0, 33] = some (true, [[some (i mI), some (.bool (ltI 6 mI))]]) := by kernel_rfl
theorem c_LU7 : closedL LU7 = true := by kernel_rfl
theorem hdU7 (mI : Int) : runLit ev 91 r7 LU7 [(0, i mI)] LU7 [0, 33] = some (true, [[some (i mI), some (.bool (ltI 7 mI))]]) := by kernel_rfl
theorem c_LU8 : closedL LU8 = true := by kernel_rfl
theorem hdU8 (mI : Int) : runLit ev 91 r7 LU8 [(0, i mI)] LU8 [0, 33] = some (true, [[some (i mI), some (.bool (ltI 8 mI))]]) := by kernel_rfl
theorem c_LU9 : closedL LU9 = true := by kernel_rfl
theorem hdU9 (mI : Int) : runLit ev 91 r7 LU9 [(0, i mI)] LU9 [0, 33] = some (true, [[some (i mI), some (.bool (ltI 9 mI))]]) := by kernel_rfl
theorem c_LU10 : closedL LU10 = true := by kernel_rfl
theorem hdU10 (mI : Int) : runLit ev 91 r7 LU10 [(0, i mI)] LU10 [0, 33] = some (true, [[some (i mI), some (.bool (ltI 10 mI))]]) := by kernel_rfl
theorem c_LU11 : closedL LU11 = true := by kernel_rfl
theorem hdU11 (mI : Int) : runLit ev 91 r7 LU11 [(0, i mI)] LU11 [0, 33] = some (true, [[some (i mI), some (.bool (ltI 11 mI))]]) := by kernel_rfl
theorem c_LU12 : closedL LU12 = true := by kernel_rfl
theorem hdU12 (mI : Int) : runLit ev 91 r7 LU12 [(0, i mI)] LU12 [0, 33] = some (true, [[some (i mI), some (.bool (ltI 12 mI))]]) := by kernel_rfl
theorem c_LU13 : closedL LU13 = true := by kernel_rfl
theorem hdU13 (mI : Int) : runLit ev 91 r7 LU13 [(0, i mI)] LU13 [0, 33] = some (true, [[some (i mI), some (.bool (ltI 13 mI))]]) := by kernel_rfl
theorem c_LU14 : closedL LU14 = true := by kernel_rfl
theorem hdU14 (mI : Int) : runLit ev 91 r7 LU14 [(0, i mI)] LU14 [0, 33] = some (true, [[some (i mI), some (.bool (ltI 14 mI))]]) := by kernel_rfl
theorem c_LU15 : closedL LU15 = true := by kernel_rfl
theorem hdU15 (mI : Int) : runLit ev 91 r7 LU15 [(0, i mI)] LU15 [0, 33] = some (true, [[some (i mI), some (.bool (ltI 15 mI))]]) := by kernel_rfl
theorem c_LU16 : closedL LU16 = true := by kernel_rfl
theorem hdU16 (mI : Int) : runLit ev 91 r7 LU16 [(0, i mI)] LU16 [0, 33] = some (true, [[some (i mI), some (.bool (ltI 16 mI))]]) := by kernel_rfl
theorem c_LU17 : closedL LU17 = true := by kernel_rfl
theorem hdU17 (mI : Int) : runLit ev 91 r7 LU17 [(0, i mI)] LU17 [0, 33] = some (true, [[some (i mI), some (.bool (ltI 17 mI))]]) := by kernel_rfl
theorem c_LU18 : closedL LU18 = true := by kernel_rfl
theorem hdU18 (mI : Int) : runLit ev 91 r7 LU18 [(0, i mI)] LU18 [0, 33] = some (true, [[some (i mI), some (.bool (ltI 18 mI))]]) := by kernel_rfl
theorem c_LU19 : closedL LU19 = true := by kernel_rfl
theorem hdU19 (mI : Int) : runLit ev 91 r7 LU19 [(0, i mI)] LU19 [0, 33] = some (true, [[some (i mI), some (.bool (ltI 19 mI))]]) := by kernel_rfl
end Go.Proofs.YtmljpohgglkkpaaGreatDoor.FS
