/-
  FedSubmits: the beginning, the heads of the rounds; each written state names what it holds (one down).
-/
import Derived.Test.YtmljpohgglkkpaaGreatDoorLitsD
set_option linter.all false
namespace Go.Proofs.YtmljpohgglkkpaaGreatDoor.FS
open Go.Abs
set_option maxRecDepth 1000000
noncomputable def AD : Abs.Lit := { env := [(1, .bool true)], next := 46, blks := [] }
theorem aD (n : Int) : runLit ev 91 (c1 body) ⟨[], [], 0⟩ [(0, i n), (1, .bool true)] ⟨[], [], 0⟩ [0, 1] = some (true, [[some (i n), some (.bool true)]]) := by kernel_rfl
theorem knD (n : Int) : runLit ev 91 r1if ⟨[], [], 0⟩ [(0, i n), (1, .bool true)] AD [0] = some (true, [[some (i n)]]) := by kernel_rfl
theorem nwD (n : Int) : runLit ev 91 r3 AD [(0, i n)] P3D [0] = some (true, [[some (i n)]]) := by kernel_rfl
theorem onD (n : Int) : runLit ev 91 r4 P3D [(0, i n)] P4D [0] = some (true, [[some (i n)]]) := by kernel_rfl
theorem beD (n : Int) : runLit ev 91 r6 P4D [(0, i n)] LD0 [0] = some (true, [[some (i n)]]) := by kernel_rfl
theorem c_AD : closedL AD = true := by kernel_rfl
theorem c_P3D : closedL P3D = true := by kernel_rfl
theorem c_P4D : closedL P4D = true := by kernel_rfl
theorem c_LD0 : closedL LD0 = true := by kernel_rfl
theorem hdD0 (mI : Int) : runLit ev 91 r7 LD0 [(0, i mI)] LD0 [0, 33] = some (true, [[some (i mI), some (.bool (ltI 0 mI))]]) := by kernel_rfl
theorem c_LD1 : closedL LD1 = true := by kernel_rfl
theorem hdD1 (mI : Int) : runLit ev 91 r7 LD1 [(0, i mI)] LD1 [0, 33] = some (true, [[some (i mI), some (.bool (ltI 1 mI))]]) := by kernel_rfl
theorem c_LD2 : closedL LD2 = true := by kernel_rfl
theorem hdD2 (mI : Int) : runLit ev 91 r7 LD2 [(0, i mI)] LD2 [0, 33] = some (true, [[some (i mI), some (.bool (ltI 2 mI))]]) := by kernel_rfl
theorem c_LD3 : closedL LD3 = true := by kernel_rfl
theorem hdD3 (mI : Int) : runLit ev 91 r7 LD3 [(0, i mI)] LD3 [0, 33] = some (true, [[some (i mI), some (.bool (ltI 3 mI))]]) := by kernel_rfl
theorem c_LD4 : closedL LD4 = true := by kernel_rfl
theorem hdD4 (mI : Int) : runLit ev 91 r7 LD4 [(0, i mI)] LD4 [0, 33] = some (true, [[some (i mI), some (.bool (ltI 4 mI))]]) := by kernel_rfl
theorem c_LD5 : closedL LD5 = true := by kernel_rfl
theorem hdD5 (mI : Int) : runLit ev 91 r7 LD5 [(0, i mI)] LD5 [0, 33] = some (true, [[some (i mI), some (.bool (ltI 5 mI))]]) := by kernel_rfl
theorem c_LD6 : closedL LD6 = true := by kernel_rfl
theorem hdD6 (mI : Int) : runLit ev 91 r7 LD6 [(0, i mI)] LD6 [0, 33] = some (true, [[some (i mI), some (.bool (ltI 6 mI))]]) := by kernel_rfl
theorem c_LD7 : closedL LD7 = true := by kernel_rfl
theorem hdD7 (mI : Int) : runLit ev 91 r7 LD7 [(0, i mI)] LD7 [0, 33] = some (true, [[some (i mI), some (.bool (ltI 7 mI))]]) := by kernel_rfl
theorem c_LD8 : closedL LD8 = true := by kernel_rfl
theorem hdD8 (mI : Int) : runLit ev 91 r7 LD8 [(0, i mI)] LD8 [0, 33] = some (true, [[some (i mI), some (.bool (ltI 8 mI))]]) := by kernel_rfl
theorem c_LD9 : closedL LD9 = true := by kernel_rfl
theorem hdD9 (mI : Int) : runLit ev 91 r7 LD9 [(0, i mI)] LD9 [0, 33] = some (true, [[some (i mI), some (.bool (ltI 9 mI))]]) := by kernel_rfl
theorem c_LD10 : closedL LD10 = true := by kernel_rfl
theorem hdD10 (mI : Int) : runLit ev 91 r7 LD10 [(0, i mI)] LD10 [0, 33] = some (true, [[some (i mI), some (.bool (ltI 10 mI))]]) := by kernel_rfl
theorem c_LD11 : closedL LD11 = true := by kernel_rfl
theorem hdD11 (mI : Int) : runLit ev 91 r7 LD11 [(0, i mI)] LD11 [0, 33] = some (true, [[some (i mI), some (.bool (ltI 11 mI))]]) := by kernel_rfl
theorem c_LD12 : closedL LD12 = true := by kernel_rfl
theorem hdD12 (mI : Int) : runLit ev 91 r7 LD12 [(0, i mI)] LD12 [0, 33] = some (true, [[some (i mI), some (.bool (ltI 12 mI))]]) := by kernel_rfl
theorem c_LD13 : closedL LD13 = true := by kernel_rfl
theorem hdD13 (mI : Int) : runLit ev 91 r7 LD13 [(0, i mI)] LD13 [0, 33] = some (true, [[some (i mI), some (.bool (ltI 13 mI))]]) := by kernel_rfl
theorem c_LD14 : closedL LD14 = true := by kernel_rfl
theorem hdD14 (mI : Int) : runLit ev 91 r7 LD14 [(0, i mI)] LD14 [0, 33] = some (true, [[some (i mI), some (.bool (ltI 14 mI))]]) := by kernel_rfl
theorem c_LD15 : closedL LD15 = true := by kernel_rfl
theorem hdD15 (mI : Int) : runLit ev 91 r7 LD15 [(0, i mI)] LD15 [0, 33] = some (true, [[some (i mI), some (.bool (ltI 15 mI))]]) := by kernel_rfl
theorem c_LD16 : closedL LD16 = true := by kernel_rfl
theorem hdD16 (mI : Int) : runLit ev 91 r7 LD16 [(0, i mI)] LD16 [0, 33] = some (true, [[some (i mI), some (.bool (ltI 16 mI))]]) := by kernel_rfl
theorem c_LD17 : closedL LD17 = true := by kernel_rfl
theorem hdD17 (mI : Int) : runLit ev 91 r7 LD17 [(0, i mI)] LD17 [0, 33] = some (true, [[some (i mI), some (.bool (ltI 17 mI))]]) := by kernel_rfl
theorem c_LD18 : closedL LD18 = true := by kernel_rfl
theorem hdD18 (mI : Int) : runLit ev 91 r7 LD18 [(0, i mI)] LD18 [0, 33] = some (true, [[some (i mI), some (.bool (ltI 18 mI))]]) := by kernel_rfl
theorem c_LD19 : closedL LD19 = true := by kernel_rfl
theorem hdD19 (mI : Int) : runLit ev 91 r7 LD19 [(0, i mI)] LD19 [0, 33] = some (true, [[some (i mI), some (.bool (ltI 19 mI))]]) := by kernel_rfl
end Go.Proofs.YtmljpohgglkkpaaGreatDoor.FS
