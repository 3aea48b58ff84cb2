/-
  FedSubmits: the walk, its second half.
-/
import Derived.Test.YtmljpohgglkkpaaGreatDoorTopA
import Derived.Test.YtmljpohgglkkpaaGreatDoorStepU0
import Derived.Test.YtmljpohgglkkpaaGreatDoorStepU1
import Derived.Test.YtmljpohgglkkpaaGreatDoorStepU2
import Derived.Test.YtmljpohgglkkpaaGreatDoorStepU3
import Derived.Test.YtmljpohgglkkpaaGreatDoorStepU4
import Derived.Test.YtmljpohgglkkpaaGreatDoorFinU0
import Derived.Test.YtmljpohgglkkpaaGreatDoorFinU1
import Derived.Test.YtmljpohgglkkpaaGreatDoorFinU2
import Derived.Test.YtmljpohgglkkpaaGreatDoorFinU3
import Derived.Test.YtmljpohgglkkpaaGreatDoorSmallU
import Derived.Test.YtmljpohgglkkpaaGreatDoorStepD0
import Derived.Test.YtmljpohgglkkpaaGreatDoorStepD1
import Derived.Test.YtmljpohgglkkpaaGreatDoorStepD2
import Derived.Test.YtmljpohgglkkpaaGreatDoorFinD0
import Derived.Test.YtmljpohgglkkpaaGreatDoorFinD1
import Derived.Test.YtmljpohgglkkpaaGreatDoorFinD2
import Derived.Test.YtmljpohgglkkpaaGreatDoorSmallD
set_option linter.all false
namespace Go.Proofs.YtmljpohgglkkpaaGreatDoor.FS
open Go.Abs Go.RowKit
set_option maxRecDepth 100000

noncomputable def LU (k : Nat) : Abs.Lit := match k with
  | 0 => LU0
  | 1 => LU1
  | 2 => LU2
  | 3 => LU3
  | 4 => LU4
  | 5 => LU5
  | 6 => LU6
  | 7 => LU7
  | 8 => LU8
  | 9 => LU9
  | 10 => LU10
  | 11 => LU11
  | 12 => LU12
  | 13 => LU13
  | 14 => LU14
  | 15 => LU15
  | 16 => LU16
  | 17 => LU17
  | 18 => LU18
  | 19 => LU19
  | _ => ⟨[], [], 0⟩
noncomputable def LD (k : Nat) : Abs.Lit := match k with
  | 0 => LD0
  | 1 => LD1
  | 2 => LD2
  | 3 => LD3
  | 4 => LD4
  | 5 => LD5
  | 6 => LD6
  | 7 => LD7
  | 8 => LD8
  | 9 => LD9
  | 10 => LD10
  | 11 => LD11
  | 12 => LD12
  | 13 => LD13
  | 14 => LD14
  | 15 => LD15
  | 16 => LD16
  | 17 => LD17
  | 18 => LD18
  | 19 => LD19
  | _ => ⟨[], [], 0⟩

/-- What was run by the kernel, of one of the two families of states. -/
structure Ran (L : Nat → Abs.Lit) : Prop where
  closed : ∀ k, k < 20 → closedL (L k) = true
  step : ∀ k, k < 19 → ∀ mI, ∃ r, runLit ev 91 b1 (L k) [(0, i mI)] (L (k + 1)) [0] = some (true, List.replicate r [some (i mI)])
  head : ∀ k, k < 20 → ∀ mI, runLit ev 91 r7 (L k) [(0, i mI)] (L k) [0, 33] = some (true, [[some (i mI), some (.bool (ltI k mI))]])
  fin : ∀ k, k < 20 → runEnd ev 91 fin (L k) [(0, i k)] 4 (.bool true) = some true
  free : ∀ k, k < 20 → ∀ mI, (envOf (app [(0, i mI)] (L k).env)).get 33 = none

theorem ranU : Ran LU where
  closed := fun k hk => match k, hk with
    | 0, _ => c_LU0
    | 1, _ => c_LU1
    | 2, _ => c_LU2
    | 3, _ => c_LU3
    | 4, _ => c_LU4
    | 5, _ => c_LU5
    | 6, _ => c_LU6
    | 7, _ => c_LU7
    | 8, _ => c_LU8
    | 9, _ => c_LU9
    | 10, _ => c_LU10
    | 11, _ => c_LU11
    | 12, _ => c_LU12
    | 13, _ => c_LU13
    | 14, _ => c_LU14
    | 15, _ => c_LU15
    | 16, _ => c_LU16
    | 17, _ => c_LU17
    | 18, _ => c_LU18
    | 19, _ => c_LU19
    | n + 20, h => (Nat.not_lt.2 (Nat.le_add_left 20 n) h).elim
  step := fun k hk mI => match k, hk with
    | 0, _ => ⟨6, stU0 mI⟩
    | 1, _ => ⟨6, stU1 mI⟩
    | 2, _ => ⟨6, stU2 mI⟩
    | 3, _ => ⟨6, stU3 mI⟩
    | 4, _ => ⟨6, stU4 mI⟩
    | 5, _ => ⟨6, stU5 mI⟩
    | 6, _ => ⟨6, stU6 mI⟩
    | 7, _ => ⟨6, stU7 mI⟩
    | 8, _ => ⟨6, stU8 mI⟩
    | 9, _ => ⟨6, stU9 mI⟩
    | 10, _ => ⟨6, stU10 mI⟩
    | 11, _ => ⟨6, stU11 mI⟩
    | 12, _ => ⟨6, stU12 mI⟩
    | 13, _ => ⟨6, stU13 mI⟩
    | 14, _ => ⟨6, stU14 mI⟩
    | 15, _ => ⟨6, stU15 mI⟩
    | 16, _ => ⟨1, stU16 mI⟩
    | 17, _ => ⟨1, stU17 mI⟩
    | 18, _ => ⟨1, stU18 mI⟩
    | n + 19, h => (Nat.not_lt.2 (Nat.le_add_left 19 n) h).elim
  head := fun k hk mI => match k, hk with
    | 0, _ => hdU0 mI
    | 1, _ => hdU1 mI
    | 2, _ => hdU2 mI
    | 3, _ => hdU3 mI
    | 4, _ => hdU4 mI
    | 5, _ => hdU5 mI
    | 6, _ => hdU6 mI
    | 7, _ => hdU7 mI
    | 8, _ => hdU8 mI
    | 9, _ => hdU9 mI
    | 10, _ => hdU10 mI
    | 11, _ => hdU11 mI
    | 12, _ => hdU12 mI
    | 13, _ => hdU13 mI
    | 14, _ => hdU14 mI
    | 15, _ => hdU15 mI
    | 16, _ => hdU16 mI
    | 17, _ => hdU17 mI
    | 18, _ => hdU18 mI
    | 19, _ => hdU19 mI
    | n + 20, h => (Nat.not_lt.2 (Nat.le_add_left 20 n) h).elim
  fin := fun k hk => match k, hk with
    | 0, _ => fiU0
    | 1, _ => fiU1
    | 2, _ => fiU2
    | 3, _ => fiU3
    | 4, _ => fiU4
    | 5, _ => fiU5
    | 6, _ => fiU6
    | 7, _ => fiU7
    | 8, _ => fiU8
    | 9, _ => fiU9
    | 10, _ => fiU10
    | 11, _ => fiU11
    | 12, _ => fiU12
    | 13, _ => fiU13
    | 14, _ => fiU14
    | 15, _ => fiU15
    | 16, _ => fiU16
    | 17, _ => fiU17
    | 18, _ => fiU18
    | 19, _ => fiU19
    | n + 20, h => (Nat.not_lt.2 (Nat.le_add_left 20 n) h).elim
  free := fun k hk mI => match k, hk with
    | 0, _ => by kernel_rfl
    | 1, _ => by kernel_rfl
    | 2, _ => by kernel_rfl
    | 3, _ => by kernel_rfl
    | 4, _ => by kernel_rfl
    | 5, _ => by kernel_rfl
    | 6, _ => by kernel_rfl
    | 7, _ => by kernel_rfl
    | 8, _ => by kernel_rfl
    | 9, _ => by kernel_rfl
    | 10, _ => by kernel_rfl
    | 11, _ => by kernel_rfl
    | 12, _ => by kernel_rfl
    | 13, _ => by kernel_rfl
    | 14, _ => by kernel_rfl
    | 15, _ => by kernel_rfl
    | 16, _ => by kernel_rfl
    | 17, _ => by kernel_rfl
    | 18, _ => by kernel_rfl
    | 19, _ => by kernel_rfl
    | n + 20, h => (Nat.not_lt.2 (Nat.le_add_left 20 n) h).elim

theorem ranD : Ran LD where
  closed := fun k hk => match k, hk with
    | 0, _ => c_LD0
    | 1, _ => c_LD1
    | 2, _ => c_LD2
    | 3, _ => c_LD3
    | 4, _ => c_LD4
    | 5, _ => c_LD5
    | 6, _ => c_LD6
    | 7, _ => c_LD7
    | 8, _ => c_LD8
    | 9, _ => c_LD9
    | 10, _ => c_LD10
    | 11, _ => c_LD11
    | 12, _ => c_LD12
    | 13, _ => c_LD13
    | 14, _ => c_LD14
    | 15, _ => c_LD15
    | 16, _ => c_LD16
    | 17, _ => c_LD17
    | 18, _ => c_LD18
    | 19, _ => c_LD19
    | n + 20, h => (Nat.not_lt.2 (Nat.le_add_left 20 n) h).elim
  step := fun k hk mI => match k, hk with
    | 0, _ => ⟨2, stD0 mI⟩
    | 1, _ => ⟨2, stD1 mI⟩
    | 2, _ => ⟨2, stD2 mI⟩
    | 3, _ => ⟨2, stD3 mI⟩
    | 4, _ => ⟨2, stD4 mI⟩
    | 5, _ => ⟨2, stD5 mI⟩
    | 6, _ => ⟨2, stD6 mI⟩
    | 7, _ => ⟨2, stD7 mI⟩
    | 8, _ => ⟨2, stD8 mI⟩
    | 9, _ => ⟨2, stD9 mI⟩
    | 10, _ => ⟨2, stD10 mI⟩
    | 11, _ => ⟨2, stD11 mI⟩
    | 12, _ => ⟨2, stD12 mI⟩
    | 13, _ => ⟨2, stD13 mI⟩
    | 14, _ => ⟨2, stD14 mI⟩
    | 15, _ => ⟨2, stD15 mI⟩
    | 16, _ => ⟨1, stD16 mI⟩
    | 17, _ => ⟨1, stD17 mI⟩
    | 18, _ => ⟨1, stD18 mI⟩
    | n + 19, h => (Nat.not_lt.2 (Nat.le_add_left 19 n) h).elim
  head := fun k hk mI => match k, hk with
    | 0, _ => hdD0 mI
    | 1, _ => hdD1 mI
    | 2, _ => hdD2 mI
    | 3, _ => hdD3 mI
    | 4, _ => hdD4 mI
    | 5, _ => hdD5 mI
    | 6, _ => hdD6 mI
    | 7, _ => hdD7 mI
    | 8, _ => hdD8 mI
    | 9, _ => hdD9 mI
    | 10, _ => hdD10 mI
    | 11, _ => hdD11 mI
    | 12, _ => hdD12 mI
    | 13, _ => hdD13 mI
    | 14, _ => hdD14 mI
    | 15, _ => hdD15 mI
    | 16, _ => hdD16 mI
    | 17, _ => hdD17 mI
    | 18, _ => hdD18 mI
    | 19, _ => hdD19 mI
    | n + 20, h => (Nat.not_lt.2 (Nat.le_add_left 20 n) h).elim
  fin := fun k hk => match k, hk with
    | 0, _ => fiD0
    | 1, _ => fiD1
    | 2, _ => fiD2
    | 3, _ => fiD3
    | 4, _ => fiD4
    | 5, _ => fiD5
    | 6, _ => fiD6
    | 7, _ => fiD7
    | 8, _ => fiD8
    | 9, _ => fiD9
    | 10, _ => fiD10
    | 11, _ => fiD11
    | 12, _ => fiD12
    | 13, _ => fiD13
    | 14, _ => fiD14
    | 15, _ => fiD15
    | 16, _ => fiD16
    | 17, _ => fiD17
    | 18, _ => fiD18
    | 19, _ => fiD19
    | n + 20, h => (Nat.not_lt.2 (Nat.le_add_left 20 n) h).elim
  free := fun k hk mI => match k, hk with
    | 0, _ => by kernel_rfl
    | 1, _ => by kernel_rfl
    | 2, _ => by kernel_rfl
    | 3, _ => by kernel_rfl
    | 4, _ => by kernel_rfl
    | 5, _ => by kernel_rfl
    | 6, _ => by kernel_rfl
    | 7, _ => by kernel_rfl
    | 8, _ => by kernel_rfl
    | 9, _ => by kernel_rfl
    | 10, _ => by kernel_rfl
    | 11, _ => by kernel_rfl
    | 12, _ => by kernel_rfl
    | 13, _ => by kernel_rfl
    | 14, _ => by kernel_rfl
    | 15, _ => by kernel_rfl
    | 16, _ => by kernel_rfl
    | 17, _ => by kernel_rfl
    | 18, _ => by kernel_rfl
    | 19, _ => by kernel_rfl
    | n + 20, h => (Nat.not_lt.2 (Nat.le_add_left 20 n) h).elim

/-- The rounds of applications. -/
theorem rounds {L : Nat → Abs.Lit} (hR : Ran L) {m : Nat} (hm : m < 20) {w0 : World} {Q : Exit → Act → World → Prop} (hQ : ∀ a w, At 91 (L m) [(0, i m)] w0 a w → Q (.exit 0) a w) :
    ∀ (d j : Nat), j + d = m → ∀ (a : Act) (w : World), At 91 (L j) [(0, i m)] w0 a w → loopWp Tryz.prog (.seq (.seq r7 (.cond (.tmp 33) .skip (.exit 0))) b1) Q a w := by
  intro d
  induction d with
  | zero =>
    intro j hj a w hA
    have e : j = m := by omega
    subst e
    refine loopWp_round (wp_seq (wp_seq (At.piece hev (xs' := [(0, i j), (33, .bool false)]) (hR.closed j hm) ?_ (outs := [[some (i j), some (.bool false)]]) ?_ ?_ hA fun a' w' hA' => ?_)))
    · intro p hp; simp only [List.mem_cons, List.not_mem_nil, or_false] at hp; rcases hp with rfl | rfl <;> trivial
    · have := hR.head j hm j
      rw [show ltI (j : Int) (j : Int) = false from by rw [ltI_eq]; simp] at this
      exact this
    · intro o ho; simp only [List.mem_cons, List.not_mem_nil, or_false] at ho; subst ho; rfl
    · have hf : envOf (app [(0, i j), (33, .bool false)] (L j).env) = ((envOf (L j).env).set 33 (.bool false)).set 0 (i j) := rfl
      have hs := hA'.slot (t := 33) (v := .bool false) (by rw [hf, PMap.get_set, if_neg (by decide), PMap.get_set, if_pos rfl]) trivial
      refine wp_cond_false (by simp [Act.eval, hs, conc]) (wp_exit ?_)
      have hA2 : At 91 (L j) [(0, i j)] w0 a' w' := by
        refine hA'.less fun t v hg => ?_
        have hf2 : envOf (app [(0, i j)] (L j).env) = (envOf (L j).env).set 0 (i j) := rfl
        have h33 := hR.free j hm j
        rw [hf2] at hg h33
        rw [hf, PMap.get_set]
        rw [PMap.get_set] at hg h33
        by_cases e0 : t = 0
        · rw [if_pos e0] at hg ⊢; exact hg
        · rw [if_neg e0] at hg ⊢
          rw [PMap.get_set]
          by_cases e33 : t = 33
          · subst e33; rw [if_neg (by decide)] at h33; rw [h33] at hg; cases hg
          · rw [if_neg e33]; exact hg
      exact hQ a' w' hA2
  | succ d ih =>
    intro j hj a w hA
    have hjm : j < m := by omega
    refine loopWp_round (wp_seq (wp_seq (At.piece hev (xs' := [(0, i m), (33, .bool true)]) (hR.closed j (by omega)) ?_ (outs := [[some (i m), some (.bool true)]]) ?_ ?_ hA fun a' w' hA' => ?_)))
    · intro p hp; simp only [List.mem_cons, List.not_mem_nil, or_false] at hp; rcases hp with rfl | rfl <;> trivial
    · have := hR.head j (by omega) m
      rw [show ltI (j : Int) (m : Int) = true from by rw [ltI_eq]; simp; omega] at this
      exact this
    · intro o ho; simp only [List.mem_cons, List.not_mem_nil, or_false] at ho; subst ho; rfl
    · have hf : envOf (app [(0, i m), (33, .bool true)] (L j).env) = ((envOf (L j).env).set 33 (.bool true)).set 0 (i m) := rfl
      have hs := hA'.slot (t := 33) (v := .bool true) (by rw [hf, PMap.get_set, if_neg (by decide), PMap.get_set, if_pos rfl]) trivial
      refine wp_cond_true (by simp [Act.eval, hs, conc]) (wp_skip ?_)
      have hA2 : At 91 (L j) [(0, i m)] w0 a' w' := by
        refine hA'.less fun t v hg => ?_
        have hf2 : envOf (app [(0, i m)] (L j).env) = (envOf (L j).env).set 0 (i m) := rfl
        have h33 := hR.free j (by omega) m
        rw [hf2] at hg h33
        rw [hf, PMap.get_set]
        rw [PMap.get_set] at hg h33
        by_cases e0 : t = 0
        · rw [if_pos e0] at hg ⊢; exact hg
        · rw [if_neg e0] at hg ⊢
          rw [PMap.get_set]
          by_cases e33 : t = 33
          · subst e33; rw [if_neg (by decide)] at h33; rw [h33] at hg; cases hg
          · rw [if_neg e33]; exact hg
      obtain ⟨r, hr⟩ := hR.step j (by omega) m
      refine At.piece hev (xs' := [(0, i m)]) (hR.closed (j + 1) (by omega)) ?_ hr ?_ hA2 fun a2 w2 hA3 => ?_
      · intro p hp; simp only [List.mem_cons, List.not_mem_nil, or_false] at hp; subst hp; trivial
      · intro o ho; exact (List.mem_replicate.1 ho).2
      · exact ih (j + 1) (by omega) a2 w2 hA3

noncomputable def body2 : Code := .seq (c1 body) (.seq r1if (.seq r3 (.seq r4 (.seq r5 (.seq (.seq r6 (.block 0 (.loop (.seq (.seq r7 (.cond (.tmp 33) .skip (.exit 0))) b1)))) fin)))))
theorem body_eq : Tryz.f3.body = some body2 := by kernel_rfl
theorem res3 : Tryz.f3.results = #[.tmp 4] := by kernel_rfl
theorem ntmps3 : Tryz.f3.ntmps = 91 := by kernel_rfl
theorem wiU (n : Int) : runLit evH 91 r5 P4U [(0, i n)] P4U [0] = some (true, [[some (i (withinI n))]]) := by kernel_rfl
theorem wiD (n : Int) : runLit evH 91 r5 P4D [(0, i n)] P4D [0] = some (true, [[some (i (withinI n))]]) := by kernel_rfl

/-- All but the first step. -/
theorem rest {L : Nat → Abs.Lit} (hR : Ran L) {A P3 P4 : Abs.Lit} (hcA : closedL A = true) (hc3 : closedL P3 = true) (hc4 : closedL P4 = true) {d : Bool}
    (kn : ∀ n, runLit ev 91 r1if ⟨[], [], 0⟩ [(0, i n), (1, .bool d)] A [0] = some (true, [[some (i n)]])) (nw : ∀ n, runLit ev 91 r3 A [(0, i n)] P3 [0] = some (true, [[some (i n)]]))
    (on : ∀ n, runLit ev 91 r4 P3 [(0, i n)] P4 [0] = some (true, [[some (i n)]])) (wi : ∀ n, runLit evH 91 r5 P4 [(0, i n)] P4 [0] = some (true, [[some (i (withinI n))]]))
    (be : ∀ n, runLit ev 91 r6 P4 [(0, i n)] (L 0) [0] = some (true, [[some (i n)]])) (n : Int) {w0 : World} {a : Act} {w : World} (hA : At 91 ⟨[], [], 0⟩ [(0, i n), (1, .bool d)] w0 a w) {Q : Exit → Act → World → Prop}
    (hQ : ∀ a' w', a'.tmps[4]? = some (.bool true) → Below w0.heap.size w0 w' → a'.defers = [] → Q .ret a' w') :
    (Code.seq r1if (.seq r3 (.seq r4 (.seq r5 (.seq (.seq r6 (.block 0 (.loop (.seq (.seq r7 (.cond (.tmp 33) .skip (.exit 0))) b1)))) fin))))).wp Tryz.prog Q a w := by
  have one : ∀ v : Int, ∀ p ∈ [((0 : Nat), i v)], ∀ dd, p.2.ok dd := fun v p hp dd => by simp only [List.mem_cons, List.not_mem_nil, or_false] at hp; subst hp; trivial
  have oneF : ∀ v : Int, ∀ p ∈ [((0 : Nat), i v)], p.2.ok fun _ => False := fun v p hp => one v p hp _
  have out : ∀ v : Int, ∀ o ∈ [[some (i v)]], o = [((0 : Nat), i v)].map fun p => some p.2 := fun v o ho => by simp only [List.mem_cons, List.not_mem_nil, or_false] at ho; subst ho; rfl
  refine wp_seq (At.piece hev (xs' := [(0, i n)]) hcA (oneF n) (kn n) (out n) hA fun a1 w1 h1 => ?_)
  refine wp_seq (At.piece hev (xs' := [(0, i n)]) hc3 (oneF n) (nw n) (out n) h1 fun a2 w2 h2 => ?_)
  refine wp_seq (At.piece hev (xs' := [(0, i n)]) hc4 (oneF n) (on n) (out n) h2 fun a3 w3 h3 => ?_)
  refine wp_seq (At.piece hevH (xs' := [(0, i (withinI n))]) hc4 (oneF _) (wi n) (out _) h3 fun a4 w4 h4 => ?_)
  obtain ⟨m, hm, e⟩ := withinI_lt n
  rw [e] at h4
  refine wp_seq (wp_seq (At.piece hev (xs' := [(0, i m)]) (hR.closed 0 (by omega)) (oneF m) (be m) (out m) h4 fun a5 w5 h5 => ?_))
  refine wp_block (loopWp_loop (rounds hR hm (fun a6 w6 h6 => ?_) m 0 (by omega) a5 w5 h5))
  simp only [Exit.inBlock, if_true]
  exact At.last (u := .bool true) hev trivial (hR.fin m hm) h6 hQ

theorem walk0 (n : Int) (d : Bool) (w : World) : Calls Tryz.prog 3 #[.int .i64 n, .bool d] w fun e w' => e = .returned (.bool true) ∧ Below w.heap.size w w' := by
  refine calls_of_wp Tryz.func3 body_eq ?_
  rw [ntmps3]
  have hst := At.start (n := 91) (args := [i n, .bool d]) (by simp) ⟨trivial, trivial, trivial⟩ w
  have hfinish : ∀ a' w', a'.tmps[4]? = some (.bool true) → Below w.heap.size w w' → a'.defers = [] → bodyPost Tryz.prog Tryz.f3 (fun e w' => e = .returned (.bool true) ∧ Below w.heap.size w w') .ret a' w' := fun a' w' h1 h2 h3 =>
    bodyPost_ret (results_tmp res3 _ _ _) h3 ⟨by rw [Array.getD_eq_getD_getElem?, h1]; rfl, h2⟩
  have two : ∀ p ∈ [((0 : Nat), i n), (1, V.bool d)], p.2.ok fun _ => False := fun p hp => by
    simp only [List.mem_cons, List.not_mem_nil, or_false] at hp; rcases hp with rfl | rfl <;> trivial
  cases d with
  | false =>
    refine wp_seq (At.piece hev (xs' := [(0, i n), (1, .bool false)]) (by kernel_rfl) two (aU n) (fun o ho => by simp only [List.mem_cons, List.not_mem_nil, or_false] at ho; subst ho; rfl) hst fun a1 w1 h1 => ?_)
    exact rest ranU c_AU c_P3U c_P4U knU nwU onU wiU beU n h1 hfinish
  | true =>
    refine wp_seq (At.piece hev (xs' := [(0, i n), (1, .bool true)]) (by kernel_rfl) two (aD n) (fun o ho => by simp only [List.mem_cons, List.not_mem_nil, or_false] at ho; subst ho; rfl) hst fun a1 w1 h1 => ?_)
    exact rest ranD c_AD c_P3D c_P4D knD nwD onD wiD beD n h1 hfinish
#print axioms walk0
end Go.Proofs.YtmljpohgglkkpaaGreatDoor.FS
