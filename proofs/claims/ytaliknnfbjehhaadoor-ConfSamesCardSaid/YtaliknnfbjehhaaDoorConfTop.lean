/-
  ConfSames: the walk, in the model's words.
-/
import Derived.Test.YtaliknnfbjehhaaDoorConfOpen
set_option linter.all false
namespace Go.Proofs.YtaliknnfbjehhaaDoor.CS
open Go.Abs Go.RowKit Go.Proofs
set_option maxRecDepth 100000

theorem callC_ok (K : Nat) : CallOk Tryd.prog (callC K) := by
  intro f args h rs hrs
  unfold callC at hrs
  split at hrs
  · rename_i hf
    have e : f = 4 := Nat.eq_of_beq_eq_true hf
    subst e
    split at hrs
    · simp only [Option.some.injEq] at hrs
      subst hrs
      exact known_at h
    · cases hrs
  · exact call_ok fit K f args h rs hrs

theorem walk0 {W : World} {o : Opened W} {zq : Nat → Value} {x : Value} (h : o.Ok zq x) (which at_ : Int) :
    Calls Tryd.prog 3 #[.agg #[.int .i64 o.L, x], .int .i64 which, .int .i64 at_] W fun e W' => e = .returned (.bool true) ∧ Below W.heap.size W W' := by
  obtain ⟨v, h', hrun, rfl⟩ := cs_walk (K := o.raw.n + 1000) (k := 0) (Nat.le_refl _) (h := o.heap) (Nat.le_refl _) (Nat.le_refl _) h.isRaw which at_
  have hargs : (concL o.phi [o.raw.v, .int .i64 which, .int .i64 at_]).toArray = #[.agg #[.int .i64 o.L, x], .int .i64 which, .int .i64 at_] := by
    show ([Go.Abs.conc o.phi o.raw.v, .int .i64 which, .int .i64 at_] : List Value).toArray = _
    rw [h.conc]
  rw [← hargs]
  rcases callA_ok fit (execC_ok fit (callC_ok (o.raw.n + 1000)) (0 + 60)) 3 _ _ _ hrun o.phi W h.rel ⟨h.ok, trivial, trivial, trivial⟩ with ⟨-, h2⟩ | ⟨v, φ', w', h'', h0, h1, -⟩
  · refine h2.mono fun e W' ⟨v, h'', φ', q0, q1, q2, q3⟩ => ?_
    have hv : v = .bool true := by
      have := List.mem_singleton.1 q0
      exact (Prod.mk.injEq .. ▸ this : v = .bool true ∧ h'' = h').1
    subst hv
    refine ⟨q1, q2.fr.os, q2.fr.tape, q2.fr.output, q2.fr.size, fun k hk => q2.fr.block k hk fun b hb hl => ?_⟩
    exact absurd (h.rel.lt b hb) (Nat.not_lt.2 hl)
  · exfalso
    have hname := fit.names 3 Tryd.f3 _ Tryd.func3 cs_body
    simp only [callFunc, Sem.run_bind, run_program, Result.andThen_ok, Tryd.func3, hname, cs_body, Option.isNone_some, Bool.false_eq_true, if_false, Sem.run_pure] at h1
    cases h1

#print axioms walk0
end Go.Proofs.YtaliknnfbjehhaaDoor.CS
