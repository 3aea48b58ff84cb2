/-
  FedSubmits: the walk.
-/
import Derived.Test.YtmljpohgglkkpaaGreatDoorBase
import Derived.Test.YtmljpohgglkkpaaGreatDoorAbsGo
set_option linter.all false
namespace Go.Proofs.YtmljpohgglkkpaaGreatDoor.FS
open Go.Abs Go.RowKit
set_option maxRecDepth 100000

theorem ext_at : ((List.range Tryz.prog.funcs.size).all fun f => match Tryz.prog.funcs[f]? with | some fn => !(fn.name == "internal/bytealg.IndexByteString") || Nat.beq f 311 | none => true) = true := by kernel_rfl
theorem ext_next : Extern.findNext Tryz.f311 = none := by kernel_rfl
theorem ext_find : Extern.find Tryz.f311 = some Extern.BytealgIndexByte.indexByte := by kernel_rfl
theorem fit : Fit Tryz.prog := Fit.of (by kernel_rfl) (by kernel_rfl) fun f fn hf _ hn => by
  have h1 := List.all_eq_true.1 ext_at f (List.mem_range.2 (Array.getElem?_eq_some_iff.1 hf).1)
  rw [hf] at h1
  simp only [hn, Bool.not_true, Bool.false_or] at h1
  have e : f = 311 := Nat.eq_of_beq_eq_true h1
  subst e
  rw [Tryz.func311] at hf
  simp only [Option.some.injEq] at hf
  subst hf
  exact ⟨ext_next, ext_find⟩

theorem hev : ExecOk Tryz.prog ev := execA_ok fit 4000

/-! ### within -/

def withinI (x : Int) : Int :=
  match x.tmod 20 with
  | .ofNat a => .ofNat a
  | .negSucc a => wrapI .i64 (Int.add (.negSucc a) 20)

theorem withinI_lt (x : Int) : ∃ m : Nat, m < 20 ∧ withinI x = m := by
  unfold withinI
  have h1 : -20 < x.tmod 20 := by have := Int.lt_tmod_of_pos x (show (0 : Int) < 20 by decide); omega
  have h2 : x.tmod 20 < 20 := Int.tmod_lt_of_pos x (by decide)
  cases hx : x.tmod 20 with
  | ofNat a => rw [hx] at h2; exact ⟨a, by simp only [Int.ofNat_eq_natCast] at h2; omega, rfl⟩
  | negSucc a =>
    rw [hx] at h1
    have ha : a < 19 := by omega
    refine ⟨19 - a, by omega, ?_⟩
    simp only
    have e : Int.add (Int.negSucc a) 20 = ((19 - a : Nat) : Int) := by
      show Int.negSucc a + 20 = _
      omega
    rw [e, wrapI_eq, wrap_in64 (by omega)]

noncomputable def bw : Code := match Tryz.f6.body with | some c => c | none => .skip
theorem bw_eq : Tryz.f6.body = some (.seq (c1 bw) (.seq (c1 (c2 bw)) (c2 (c2 bw)))) := by kernel_rfl
theorem res6 : Tryz.f6.results = #[.tmp 4] := by kernel_rfl
theorem ntmps6 : Tryz.f6.ntmps = 15 := by kernel_rfl
theorem name6 : (Tryz.f6.name == "runtime.NumGoroutine") = false := by kernel_rfl

noncomputable def e1 (x : Int) : Env := (argsEnv [i x, i 20] 0 .leaf).set 4 z
noncomputable def e2 (x r : Int) : Env := (((((e1 x).set 6 (i x)).set 7 (i 20)).set 8 (i r)).set 5 (i r))
theorem w1 (x : Int) (h : Heap) : execA Tryz.prog 20 15 (c1 bw) (argsEnv [i x, i 20] 0 .leaf) h = some [(.normal, e1 x, h)] := by kernel_rfl
theorem w2 (x : Int) (h : Heap) : execA Tryz.prog 20 15 (c1 (c2 bw)) (e1 x) h = some [(.normal, e2 x (x.tmod 20), h)] := by kernel_rfl
noncomputable def e3p (x r : Int) : Env := ((((e2 x r).set 9 (i r)).set 10 (.bool false)).set 14 (i r)).set 4 (i r)
noncomputable def e3n (x r q : Int) : Env := ((((((((e2 x r).set 9 (i r)).set 10 (.bool true)).set 11 (i r)).set 12 (i 20)).set 13 (i q)).set 5 (i q)).set 14 (i q)).set 4 (i q)
theorem w3p (x : Int) (a : Nat) (h : Heap) : execA Tryz.prog 20 15 (c2 (c2 bw)) (e2 x (.ofNat a)) h = some [(.ret, e3p x (.ofNat a), h)] := by kernel_rfl
theorem w3n (x : Int) (a : Nat) (h : Heap) : execA Tryz.prog 20 15 (c2 (c2 bw)) (e2 x (.negSucc a)) h = some [(.ret, e3n x (.negSucc a) (wrapI .i64 (Int.add (.negSucc a) 20)), h)] := by kernel_rfl

theorem w3 (x : Int) (h : Heap) : ∃ env, execA Tryz.prog 20 15 (c2 (c2 bw)) (e2 x (x.tmod 20)) h = some [(.ret, env, h)] ∧ env.get 4 = some (i (withinI x)) := by
  unfold withinI
  cases hx : x.tmod 20 with
  | ofNat a => exact ⟨_, w3p x a h, by simp only [e3p, PMap.get_set, if_pos]⟩
  | negSucc a => exact ⟨_, w3n x a h, by simp only [e3n, PMap.get_set, if_pos]⟩

theorem within_at (x : Int) (h : Heap) : CallOkAt Tryz.prog 6 [i x, i 20] h [(i (withinI x), h)] := by
  intro φ w hr hok
  refine .inl ⟨?_, ?_⟩
  · simp only [callFunc, Sem.run_bind, run_program, Result.andThen_ok, Tryz.func6, name6, bw_eq, Option.isNone_some, Bool.false_eq_true, if_false, Sem.run_pure]
  · have hx := execA_ok fit 20
    have hE := argsEnv_rel (φ := φ) (args := [i x, i 20]) (n := 15) (by simp) ⟨trivial, trivial, trivial⟩
    refine calls_of_wp Tryz.func6 bw_eq ?_
    rw [ntmps6]
    refine wp_seq (run_one hx (w1 x h) hr hE fun φ1 a1 v1 p1 q1 d1 => ?_)
    refine wp_seq (run_one hx (w2 x h) p1.rel q1 fun φ2 a2 v2 p2 q2 d2 => ?_)
    obtain ⟨env, h3, h4⟩ := w3 x h
    refine run_one hx h3 p2.rel q2 fun φ3 a3 v3 p3 q3 d3 => ?_
    refine bodyPost_ret (results_tmp res6 _ _ _) (by rw [d3, d2, d1]) ?_
    obtain ⟨g1, -⟩ := q3.get 4 _ h4
    refine ⟨i (withinI x), h, φ3, List.mem_singleton.2 rfl, ?_, (p1.trans p2).trans p3, trivial⟩
    rw [Array.getD_eq_getD_getElem?, g1]; rfl

/-- Calls of within are answered so. -/
noncomputable def hookW (args : List V) (h : Heap) : Option Rets :=
  match args with
  | [.int .i64 x, .int .i64 y] => match eqI y 20 with
    | true => some [(i (withinI x), h)]
    | false => none
  | _ => none
noncomputable def hook (f : FuncId) : Option (List V → Heap → Option Rets) :=
  match Nat.beq f 6 with
  | true => some hookW
  | false => none

theorem hook_ok : HookOk Tryz.prog hook := by
  intro f g hg args h rs hrs
  unfold hook at hg
  split at hg
  · rename_i hf
    have e : f = 6 := Nat.eq_of_beq_eq_true hf
    subst e
    simp only [Option.some.injEq] at hg
    subst hg
    unfold hookW at hrs
    split at hrs
    · rename_i x y
      split at hrs
      · rename_i hy
        rw [eqI_eq, decide_eq_true_eq] at hy
        subst hy
        simp only [Option.some.injEq] at hrs
        subst hrs
        exact within_at x h
      · cases hrs
    · cases hrs
  · cases hg

noncomputable def evH : Nat → Code → Env → Heap → Option (List Res) := execH Tryz.prog hook 20
theorem hevH : ExecOk Tryz.prog evH := execH_ok fit hook_ok 20
end Go.Proofs.YtmljpohgglkkpaaGreatDoor.FS
