/-
  A region whose order is open: one operation after another, in whatever order, comes to what the text's order comes to. First half: the text's order.
-/
import Derived.Test.YtaliknnfbjehhaaDoorAbsBefore
set_option linter.all false
namespace Go.Abs
open Go.RowKit

section
variable {P : Program} {φ : Phi} {h : Heap} {w : World} {n : Nat} {env : Env} {a : Act} {call : FuncId → List V → Heap → Option Rets}

/-- One operation leads somewhere. -/
theorem operA_is (hc : CallOk P call) (hr : Rel φ h w) (hE : EnvRel φ n env a.tmps) {ops : Array Oper} {o : Oper} {l : List (Env × Heap)} (hl : operA P call n ops o env h = some l) :
    ∃ p ∈ l, ∃ φ' w' v, Post φ h w φ' p.2 w' ∧ putA n env o.dst v = some p.1 ∧ v.ok φ'.dom := by
  unfold operA at hl
  split at hl
  · cases hl
  · unfold putOne at hl
    split at hl
    · rename_i env' he
      simp only [Option.some.injEq] at hl; subst hl
      exact ⟨_, List.mem_singleton.2 rfl, φ, w, .tuple [], Post.refl hr, he, trivial⟩
    · cases hl
  · unfold runOper at hl
    split at hl
    · cases hl
    · rename_i s hs
      have hok := stepA_ok hr hE hs
      cases s with
      | value v h' =>
        obtain ⟨φ', w', e1, e2, e3⟩ := hok
        simp only [leaveA, putOne] at hl
        split at hl
        · rename_i env' he
          simp only [Option.some.injEq] at hl; subst hl
          exact ⟨_, List.mem_singleton.2 rfl, φ', w', v, e2, he, e3⟩
        · cases hl
      | skip h' =>
        obtain ⟨φ', w', e1, e2⟩ := hok
        simp only [leaveA, putOne] at hl
        split at hl
        · rename_i env' he
          simp only [Option.some.injEq] at hl; subst hl
          exact ⟨_, List.mem_singleton.2 rfl, φ', w', .tuple [], e2, he, trivial⟩
        · cases hl
      | many rs =>
        obtain ⟨v, h', φ', w', e0, e1, e2, e3⟩ := hok
        simp only [leaveA] at hl
        obtain ⟨env', he, hm⟩ := putMany_mem hl _ e0
        exact ⟨_, hm, φ', w', v, e2, he, e3⟩
      | call f args =>
        obtain ⟨e1, e2⟩ := hok
        simp only [leaveA] at hl
        split at hl
        · cases hl
        · rename_i rs hrs
          rcases hc f args h rs hrs φ w hr e2 with ⟨c1, c2⟩ | ⟨v, φ', w', h', e0, c1, c2, c3⟩
          · obtain ⟨e, w', fr, ⟨v, h', φ', q0, q1, q2, q3⟩, -⟩ := c2 []
            obtain ⟨env', he, hm⟩ := putMany_mem hl _ q0
            exact ⟨_, hm, φ', w', v, q2, he, q3⟩
          · obtain ⟨env', he, hm⟩ := putMany_mem hl _ e0
            exact ⟨_, hm, φ', w', v, c2, he, c3⟩

theorem putA_any {dst : Option Tmp} {v u : V} {env' : Env} (e : Env) (hp : putA n env dst v = some env') : ∃ e', putA n e dst u = some e' := by
  unfold putA at hp ⊢
  cases dst with
  | none => exact ⟨_, rfl⟩
  | some d =>
    simp only at hp ⊢
    split at hp
    · exact ⟨_, rfl⟩
    · cases hp

theorem putA_get {dst : Option Tmp} {v : V} {env' : Env} (hp : putA n env dst v = some env') (t : Nat) : env'.get t = if dst = some t then some v else env.get t := by
  unfold putA at hp
  cases dst with
  | none => simp only [Option.some.injEq] at hp; subst hp; rfl
  | some d =>
    simp only at hp
    split at hp
    · simp only [Option.some.injEq] at hp; subst hp
      rw [PMap.get_set]
      by_cases e : t = d
      · subst e; simp
      · rw [if_neg e, if_neg (fun h => e (Option.some.inj h).symm)]
    · cases hp

theorem putA_lt {d : Tmp} {v : V} {env' : Env} (hp : putA n env (some d) v = some env') : d < n := by
  unfold putA at hp
  simp only at hp
  split at hp
  · rename_i hb; exact Nat.le_of_ble_eq_true hb
  · cases hp

theorem putMany_one {dst : Option Tmp} {l : List (V × Heap)} {env' : Env} {h' : Heap} (hl : putMany n env dst l = some [(env', h')]) : ∃ v, l = [(v, h')] ∧ putA n env dst v = some env' := by
  have one : ∀ (v : V) (k : Heap) (r : List (Env × Heap)), putOne n env dst v k = some r → ∃ e, putA n env dst v = some e ∧ r = [(e, k)] := by
    intro v k r hp
    unfold putOne at hp
    split at hp
    · rename_i e he
      simp only [Option.some.injEq] at hp
      exact ⟨e, he, hp.symm⟩
    · cases hp
  have len : ∀ (l : List (V × Heap)) (r : List (Env × Heap)), bindA (fun p => putOne n env dst p.1 p.2) l = some r → r.length = l.length := by
    intro l
    induction l with
    | nil => intro r hr; have : r = [] := by simpa [bindA] using hr.symm
             subst this; rfl
    | cons x xs ih =>
      intro r hr
      rw [bindA_cons] at hr
      split at hr
      · rename_i ys zs h1 h2
        simp only [Option.some.injEq] at hr; subst hr
        obtain ⟨e, -, rfl⟩ := one _ _ _ h1
        rw [app_eq]
        simp [ih _ h2]
      · cases hr
  unfold putMany at hl
  split at hl
  · rename_i v k
    obtain ⟨e, he, h1⟩ := one _ _ _ hl
    simp only [List.cons.injEq, Prod.mk.injEq, and_true] at h1
    obtain ⟨rfl, rfl⟩ := h1
    exact ⟨v, rfl, he⟩
  · rename_i hne
    have h1 := len _ _ hl
    match l, h1 with
    | [(v, k)], _ => exact (hne v k rfl).elim

theorem putMany_sing {dst : Option Tmp} {v : V} {e e' : Env} {h' : Heap} (hp : putA n e dst v = some e') : putMany n e dst [(v, h')] = some [(e', h')] := by
  simp only [putMany, putOne, hp]

/-- An operation with one outcome, where only the slots that it looks at are known. -/
theorem operA_one {ops : Array Oper} {o : Oper} {env' : Env} {h' : Heap} (hl : operA P call n ops o env h = some [(env', h')]) :
    ∃ v, putA n env o.dst v = some env' ∧ ∀ e, (∀ x ∈ o.op.operands, evalA e x = evalA env x) → wantedA ops e o = wantedA ops env o → ∃ e', putA n e o.dst v = some e' ∧ operA P call n ops o e h = some [(e', h')] := by
  unfold operA at hl
  split at hl
  · cases hl
  · rename_i hw
    unfold putOne at hl
    split at hl
    · rename_i e1 he
      simp only [Option.some.injEq, List.cons.injEq, Prod.mk.injEq, and_true] at hl
      obtain ⟨rfl, rfl⟩ := hl
      refine ⟨_, he, fun e _ hwe => ?_⟩
      obtain ⟨e', he'⟩ := putA_any (u := .tuple []) e he
      refine ⟨e', he', ?_⟩
      unfold operA
      rw [hwe, hw]
      simp only [putOne, he']
    · cases hl
  · rename_i hw
    unfold runOper at hl
    split at hl
    · cases hl
    · rename_i s hs
      have go : ∀ v e e', (∀ x ∈ o.op.operands, evalA e x = evalA env x) → wantedA ops e o = wantedA ops env o → leaveA call n e h o.dst s = some [(e', h')] → putA n e o.dst v = some e' → ∃ e', putA n e o.dst v = some e' ∧ operA P call n ops o e h = some [(e', h')] := by
        intro v e e' hx hwe hle hp
        refine ⟨e', hp, ?_⟩
        unfold operA
        rw [hwe, hw]
        simp only [runOper, stepA]
        rw [stepOp_congr hx]
        unfold stepA at hs
        rw [hs]
        exact hle
      cases s with
      | value v k =>
        simp only [leaveA, putOne] at hl
        split at hl
        · rename_i e1 he
          simp only [Option.some.injEq, List.cons.injEq, Prod.mk.injEq, and_true] at hl
          obtain ⟨rfl, rfl⟩ := hl
          refine ⟨v, he, fun e hx hwe => ?_⟩
          obtain ⟨e', he'⟩ := putA_any (u := v) e he
          exact go v e e' hx hwe (by simp only [leaveA, putOne, he']) he'
        · cases hl
      | skip k =>
        simp only [leaveA, putOne] at hl
        split at hl
        · rename_i e1 he
          simp only [Option.some.injEq, List.cons.injEq, Prod.mk.injEq, and_true] at hl
          obtain ⟨rfl, rfl⟩ := hl
          refine ⟨.tuple [], he, fun e hx hwe => ?_⟩
          obtain ⟨e', he'⟩ := putA_any (u := .tuple []) e he
          exact go _ e e' hx hwe (by simp only [leaveA, putOne, he']) he'
        · cases hl
      | many rs =>
        simp only [leaveA] at hl
        obtain ⟨v, rfl, he⟩ := putMany_one hl
        refine ⟨v, he, fun e hx hwe => ?_⟩
        obtain ⟨e', he'⟩ := putA_any (u := v) e he
        exact go v e e' hx hwe (by simp only [leaveA]; exact putMany_sing he') he'
      | call f args =>
        simp only [leaveA] at hl
        split at hl
        · cases hl
        · rename_i rs hrs
          obtain ⟨v, rfl, he⟩ := putMany_one hl
          refine ⟨v, he, fun e hx hwe => ?_⟩
          obtain ⟨e', he'⟩ := putA_any (u := v) e he
          exact go v e e' hx hwe (by simp only [leaveA, hrs]; exact putMany_sing he') he'

/-- A quiet operation in another heap. -/
theorem operA_quiet {ops : Array Oper} {o : Oper} (hq : quietOp o.op = true) {env' : Env} {h' : Heap} (hl : operA P call n ops o env h = some [(env', h')]) :
    h' = h ∧ ∀ h2, operA P call n ops o env h2 = some [(env', h2)] := by
  unfold operA at hl
  split at hl
  · cases hl
  · rename_i hw
    unfold putOne at hl
    split at hl
    · rename_i e1 he
      simp only [Option.some.injEq, List.cons.injEq, Prod.mk.injEq, and_true] at hl
      obtain ⟨rfl, rfl⟩ := hl
      exact ⟨rfl, fun h2 => by unfold operA; rw [hw]; simp only [putOne, he]⟩
    · cases hl
  · rename_i hw
    unfold runOper at hl
    split at hl
    · cases hl
    · rename_i s hs
      obtain ⟨v, rfl, hv⟩ := quiet_step hq hs
      simp only [leaveA, putOne] at hl
      split at hl
      · rename_i e1 he
        simp only [Option.some.injEq, List.cons.injEq, Prod.mk.injEq, and_true] at hl
        obtain ⟨rfl, rfl⟩ := hl
        refine ⟨rfl, fun h2 => ?_⟩
        unfold operA
        rw [hw]
        simp only [runOper, stepA, hv h2, leaveA, putOne, he]
      · cases hl

/-- A load from another heap that has the same in its block. -/
theorem operA_read {ops : Array Oper} {o : Oper} (hq : readOp o.op = true) {env' : Env} {h' : Heap} (hl : operA P call n ops o env h = some [(env', h')]) :
    h' = h ∧ ∀ h2, (∀ t y c f, o.op = .load t y → evalA env y = some (.ptr (some (c, f))) → h2.get c = h.get c) → operA P call n ops o env h2 = some [(env', h2)] := by
  unfold operA at hl
  split at hl
  · cases hl
  · rename_i hw
    unfold putOne at hl
    split at hl
    · rename_i e1 he
      simp only [Option.some.injEq, List.cons.injEq, Prod.mk.injEq, and_true] at hl
      obtain ⟨rfl, rfl⟩ := hl
      exact ⟨rfl, fun h2 _ => by unfold operA; rw [hw]; simp only [putOne, he]⟩
    · cases hl
  · rename_i hw
    unfold runOper at hl
    split at hl
    · cases hl
    · rename_i s hs
      obtain ⟨t, y, hop⟩ : ∃ t y, o.op = .load t y := by
        cases ho : o.op <;> rw [ho] at hq <;> first | (cases hq; done) | exact ⟨_, _, rfl⟩
      have hs0 := hs
      unfold stepA at hs
      rw [hop] at hs
      simp only [stepOp, sLoad] at hs
      split at hs
      · rename_i u hu
        obtain ⟨v, hv, rfl⟩ := valueS_some hs
        simp only [leaveA, putOne] at hl
        split at hl
        · rename_i e1 he
          simp only [Option.some.injEq, List.cons.injEq, Prod.mk.injEq, and_true] at hl
          obtain ⟨rfl, rfl⟩ := hl
          refine ⟨rfl, fun h2 hh => ?_⟩
          have hsame : loadA P h2 t u = some v := by
            rw [← hv]
            cases u with
            | ptr a =>
              cases a with
              | none => rfl
              | some a =>
                have hg := hh t y a.1 a.2 hop hu
                simp only [loadA, Heap.load, Heap.row, hg]
            | _ => rfl
          unfold operA
          rw [hw]
          simp only [runOper, stepA, hop, stepOp, sLoad, hu, hsame, valueS, leaveA, putOne, he]
        · cases hl
      · cases hs

/-! ### the text's order -/

def isW (ops : Array Oper) (i : Nat) : Prop := ∃ o, ops[i]? = some o ∧ quietOp o.op = false ∧ readOp o.op = false ∧ orderedAt ops (Region.before ops) i = true
def isLoud (ops : Array Oper) (i : Nat) : Prop := ∃ o, ops[i]? = some o ∧ quietOp o.op = false ∧ readOp o.op = false

/-- All names in a block lie below a bound. -/
def Blk.below (l : Nat) : Blk → Prop
  | .row _ cs => okL (fun b => b < l) cs
  | .map es _ => ∀ e ∈ es, okE (fun b => b < l) e
  | .mIter m _ _ _ => ∀ r, m = some r → r < l
  | _ => True

theorem BlkRel.below {φ : Phi} {w : World} {b l : Nat} {x : Blk} (h : BlkRel φ w b x) (hl : ∀ b, φ.dom b → b < l) : x.below l := by
  cases x with
  | row o cells => obtain ⟨C, t, lo, hi, h1, h2, h3, h4, h5, h6⟩ := h; exact okL_mono hl _ h6
  | map es clock => obtain ⟨E, h1, h2, h3⟩ := h; exact fun e hm => ⟨V.ok_mono hl _ (h3 e hm).1.1, V.ok_mono hl _ (h3 e hm).1.2⟩
  | sIter s pos => exact trivial
  | mIter m since seen stepped => obtain ⟨h1, h2, h3⟩ := h; exact fun r hr => hl r (h3 r hr)
  | dead => exact trivial

/-- The evaluator's steps through a region whose order is open. -/
structure Tr (P : Program) (call : FuncId → List V → Heap → Option Rets) (n : Nat) (ops : Array Oper) (d0 : Nat → Prop) (st : Nat → Env × Heap) : Prop where
  blks : ∀ i, i ≤ ops.size → ∀ b x, d0 b ∨ (st 0).2.next ≤ b → b < (st i).2.next → (st i).2.get b = some x → x.below (st i).2.next
  lims : ∀ i, i ≤ ops.size → (st i).2.lim0 ≤ (st i).2.lim ∧ (st i).2.lim ≤ (st i).2.next
  vals : ∀ i, i ≤ ops.size → ∀ t v, (st i).1.get t = some v → v.ok fun b => b < (st i).2.next
  put : ∀ i o, ops[i]? = some o → ∃ v, putA n (st i).1 o.dst v = some (st (i + 1)).1
  eff : ∀ i, i < ops.size → Eff (st i).2 (st (i + 1)).2
  same : ∀ i, i < ops.size → ¬ isW ops i → ∀ b, b < (st i).2.next → (st (i + 1)).2.get b = (st i).2.get b
  quiet : ∀ i o, ops[i]? = some o → quietOp o.op = true → (st (i + 1)).2 = (st i).2 ∧ ∀ h2, operA P call n ops o (st i).1 h2 = some [((st (i + 1)).1, h2)]
  read : ∀ i o, ops[i]? = some o → readOp o.op = true → (st (i + 1)).2 = (st i).2 ∧ ∀ h2, (∀ t y c f, o.op = .load t y → evalA (st i).1 y = some (.ptr (some (c, f))) → h2.get c = (st i).2.get c) → operA P call n ops o (st i).1 h2 = some [((st (i + 1)).1, h2)]
  fixed : ∀ i o, ops[i]? = some o → isW ops i → operA P call n ops o (st i).1 (st i).2 = some [st (i + 1)]
  loose : ∀ i o, ops[i]? = some o → quietOp o.op = false → readOp o.op = false → ¬ isW ops i → ∃ h1, operA P call n ops o (st i).1 { (st i).2 with lim := (st i).2.next } = some [((st (i + 1)).1, h1)] ∧ (st (i + 1)).2 = { h1 with lim := (st i).2.lim }

def StepR (P : Program) (call : FuncId → List V → Heap → Option Rets) (n : Nat) (ops : Array Oper) (o : Oper) (b : Bool) (p q : Env × Heap) : Prop :=
  match b with
  | true => operA P call n ops o p.1 p.2 = some [q]
  | false => ∃ h1, operA P call n ops o p.1 { p.2 with lim := p.2.next } = some [(q.1, h1)] ∧ q.2 = { h1 with lim := p.2.lim }

theorem openOpsA_steps {ops : Array Oper} : ∀ (l : List (Oper × Bool)) (env : Env) (h : Heap) (r : Env × Heap), openOpsA P call n ops l env h = some r →
    ∃ st : Nat → Env × Heap, st 0 = (env, h) ∧ st l.length = r ∧ ∀ i o b, l[i]? = some (o, b) → StepR P call n ops o b (st i) (st (i + 1))
  | [], env, h, r, hr => by
    have : r = (env, h) := by simpa [openOpsA] using hr.symm
    subst this
    exact ⟨fun _ => (env, h), rfl, rfl, fun i o b hi => by simp at hi⟩
  | (o, true) :: l, env, h, r, hr => by
    have e : openOpsA P call n ops ((o, true) :: l) env h = (match operA P call n ops o env h with | some [(env', h')] => openOpsA P call n ops l env' h' | _ => none) := rfl
    rw [e] at hr
    split at hr
    · rename_i env' h' ho
      obtain ⟨st, s0, s1, s2⟩ := openOpsA_steps l env' h' r hr
      refine ⟨fun i => match i with | 0 => (env, h) | i + 1 => st i, rfl, s1, fun i o' b' hi => ?_⟩
      cases i with
      | zero =>
        simp only [List.getElem?_cons_zero, Option.some.injEq, Prod.mk.injEq] at hi
        obtain ⟨rfl, rfl⟩ := hi
        show operA P call n ops o env h = some [st 0]
        rw [s0]; exact ho
      | succ i => exact s2 i o' b' (by simpa using hi)
    · cases hr
  | (o, false) :: l, env, h, r, hr => by
    have e : openOpsA P call n ops ((o, false) :: l) env h = (match operA P call n ops o env { h with lim := h.next } with | some [(env', h')] => openOpsA P call n ops l env' { h' with lim := h.lim } | _ => none) := rfl
    rw [e] at hr
    split at hr
    · rename_i env' h' ho
      obtain ⟨st, s0, s1, s2⟩ := openOpsA_steps l env' _ r hr
      refine ⟨fun i => match i with | 0 => (env, h) | i + 1 => st i, rfl, s1, fun i o' b' hi => ?_⟩
      cases i with
      | zero =>
        simp only [List.getElem?_cons_zero, Option.some.injEq, Prod.mk.injEq] at hi
        obtain ⟨rfl, rfl⟩ := hi
        refine ⟨h', ?_, by show (st 0).2 = _; rw [s0]⟩
        show operA P call n ops o env { h with lim := h.next } = some [((st 0).1, h')]
        rw [s0]; exact ho
      | succ i => exact s2 i o' b' (by simpa using hi)
    · cases hr

theorem get_lim (h : Heap) (l : Nat) (b : Nat) : ({ h with lim := l } : Heap).get b = h.get b := rfl
theorem live_lim (h : Heap) (l : Nat) (b : Nat) : live ({ h with lim := l } : Heap) b ↔ live h b := Iff.rfl

theorem Rel.setLim (hr : Rel φ h w) {l : Nat} (h1 : h.lim0 ≤ l) (h2 : l ≤ h.next) : Rel φ { h with lim := l } w :=
  ⟨hr.blocks, hr.lt, hr.size, hr.inj, ⟨h1, h2⟩, hr.fz⟩

theorem planA_get (ops : Array Oper) (i : Nat) (hi : i < ops.size) : (planA ops)[i]? = some (orderedAt ops (Region.before ops) i) := by
  unfold planA
  simp [hi]

theorem openOpsA_tr (hc : CallOk P call) (hr : Rel φ h w) (hE : EnvRel φ n env a.tmps) {ops : Array Oper} {r : Env × Heap} (hl : openOpsA P call n ops (ops.toList.zip (planA ops)) env h = some r) :
    ∃ st : Nat → Env × Heap, st 0 = (env, h) ∧ st ops.size = r ∧ Tr P call n ops φ.dom st := by
  obtain ⟨st, s0, s1, s2⟩ := openOpsA_steps _ env h r hl
  have hlen : (ops.toList.zip (planA ops)).length = ops.size := by simp [planA]
  rw [hlen] at s1
  have step : ∀ i o, ops[i]? = some o → StepR P call n ops o (orderedAt ops (Region.before ops) i) (st i) (st (i + 1)) := by
    intro i o ho
    have hi : i < ops.size := (Array.getElem?_eq_some_iff.1 ho).1
    refine s2 i o _ ?_
    rw [List.getElem?_zip_eq_some]
    exact ⟨by rw [Array.getElem?_toList]; exact ho, planA_get ops i hi⟩
  have real : ∀ i, i ≤ ops.size → ∃ (φ1 : Phi) (w1 : World) (a1 : Act), Post φ h w φ1 (st i).2 w1 ∧ EnvRel φ1 n (st i).1 a1.tmps ∨ (Rel φ1 (st i).2 w1 ∧ EnvRel φ1 n (st i).1 a1.tmps ∧ (∀ b, φ.dom b → φ1.dom b) ∧ ∀ b, h.next ≤ b → b < (st i).2.next → φ1.dom b) := by
    intro i
    induction i with
    | zero => intro _; exact ⟨φ, w, a, .inr ⟨by rw [s0]; exact hr, by rw [s0]; exact hE, fun _ h => h, fun b h1 h2 => by rw [s0] at h2; simp only at h2; omega⟩⟩
    | succ i ih =>
      intro hi
      have ih := ih (by omega)
      obtain ⟨φ1, w1, a1, r1, e1, d1, l1⟩ : ∃ (φ1 : Phi) (w1 : World) (a1 : Act), Rel φ1 (st i).2 w1 ∧ EnvRel φ1 n (st i).1 a1.tmps ∧ (∀ b, φ.dom b → φ1.dom b) ∧ ∀ b, h.next ≤ b → b < (st i).2.next → φ1.dom b := by
        obtain ⟨φ1, w1, a1, ⟨p, q⟩ | p⟩ := ih
        · exact ⟨φ1, w1, a1, p.rel, q, p.ext.dom, p.all⟩
        · exact ⟨φ1, w1, a1, p⟩
      have ho : ops[i]? = some ops[i] := Array.getElem?_eq_getElem (by omega)
      have hs := step i _ ho
      have news : ∀ {φ2 : Phi} {k : Heap}, (∀ b, φ1.dom b → φ2.dom b) → (∀ b, (st i).2.next ≤ b → b < k.next → φ2.dom b) → ∀ b, h.next ≤ b → b < k.next → φ2.dom b := fun g1 g2 b b1 b2 => by
        rcases Nat.lt_or_ge b (st i).2.next with hb | hb
        · exact g1 b (l1 b b1 hb)
        · exact g2 b hb b2
      cases hb : orderedAt ops (Region.before ops) i with
      | true =>
        rw [hb] at hs
        obtain ⟨p, hp, φ2, w2, v, p1, p2, p3⟩ := operA_is hc r1 e1 hs
        rw [List.mem_singleton] at hp; subst hp
        exact ⟨φ2, w2, _, .inr ⟨p1.rel, putA_rel (e1.ext p1.ext) p2 p3, fun b hb => p1.ext.dom b (d1 b hb), news p1.ext.dom p1.all⟩⟩
      | false =>
        rw [hb] at hs
        obtain ⟨h1, hs, hh⟩ := hs
        have hl := r1.lims
        obtain ⟨p, hp, φ2, w2, v, p1, p2, p3⟩ := operA_is hc (r1.setLim (l := (st i).2.next) (by omega) (Nat.le_refl _)) e1 hs
        rw [List.mem_singleton] at hp; subst hp
        refine ⟨φ2, w2, _, .inr ⟨?_, putA_rel (e1.ext p1.ext) p2 p3, fun b hb => p1.ext.dom b (d1 b hb), ?_⟩⟩
        · rw [hh]
          have l1 := p1.eff.lim0
          have l2 := p1.eff.next
          simp only at l1 l2
          exact p1.rel.setLim (h := h1) (by omega) (by omega)
        · rw [hh]
          exact news (k := { h1 with lim := (st i).2.lim }) p1.ext.dom p1.all
  have real : ∀ i, i ≤ ops.size → ∃ (φ1 : Phi) (w1 : World) (a1 : Act), Rel φ1 (st i).2 w1 ∧ EnvRel φ1 n (st i).1 a1.tmps ∧ (∀ b, φ.dom b → φ1.dom b) ∧ ∀ b, h.next ≤ b → b < (st i).2.next → φ1.dom b := fun i hi => by
    obtain ⟨φ1, w1, a1, ⟨p, q⟩ | p⟩ := real i hi
    · exact ⟨φ1, w1, a1, p.rel, q, p.ext.dom, p.all⟩
    · exact ⟨φ1, w1, a1, p⟩
  have effs : ∀ i o, ops[i]? = some o → Eff (st i).2 (st (i + 1)).2 ∧ (orderedAt ops (Region.before ops) i = false → ∀ b, b < (st i).2.next → (st (i + 1)).2.get b = (st i).2.get b) ∧ ∃ v, putA n (st i).1 o.dst v = some (st (i + 1)).1 := by
    intro i o ho
    have hi : i < ops.size := (Array.getElem?_eq_some_iff.1 ho).1
    obtain ⟨φ1, w1, a1, r1, e1, -⟩ := real i (by omega)
    have hs := step i _ ho
    cases hb : orderedAt ops (Region.before ops) i with
    | true =>
      rw [hb] at hs
      obtain ⟨p, hp, φ2, w2, v, p1, p2, p3⟩ := operA_is hc r1 e1 hs
      rw [List.mem_singleton] at hp; subst hp
      exact ⟨p1.eff, fun h => (by cases h), v, p2⟩
    | false =>
      rw [hb] at hs
      obtain ⟨h1, hs, hh⟩ := hs
      have hl := r1.lims
      obtain ⟨p, hp, φ2, w2, v, p1, p2, p3⟩ := operA_is hc (r1.setLim (l := (st i).2.next) (by omega) (Nat.le_refl _)) e1 hs
      rw [List.mem_singleton] at hp; subst hp
      have hget : ∀ b, b < (st i).2.next → (st (i + 1)).2.get b = (st i).2.get b := fun b hb => by rw [hh]; exact p1.eff.get b hb
      refine ⟨⟨by rw [hh]; exact p1.eff.ro, by rw [hh]; exact p1.eff.lim0, by rw [hh], by rw [hh]; exact p1.eff.next, fun b hb => hget b (by omega), fun b hb hlv => ?_⟩, fun _ => hget, v, p2⟩
      obtain ⟨x, hx, hd⟩ := hlv
      exact ⟨x, by rw [← hget b hb]; exact hx, hd⟩
  refine ⟨st, s0, s1, ?_, ?_, ?_, ?_, ?_, ?_, ?_, ?_, ?_, ?_⟩
  · intro i hi b x hd hb hx
    obtain ⟨φ1, w1, a1, r1, -, d1, l1⟩ := real i hi
    refine (r1.blocks b x ?_ hx).below r1.lt
    rcases hd with hd | hd
    · exact d1 b hd
    · rw [s0] at hd; exact l1 b hd hb
  · intro i hi
    obtain ⟨φ1, w1, a1, r1, -⟩ := real i hi
    exact r1.lims
  · intro i hi t v hv
    obtain ⟨φ1, w1, a1, r1, e1, -⟩ := real i hi
    exact V.ok_mono r1.lt _ (e1.get t v hv).2
  · intro i o ho; exact (effs i o ho).2.2
  · intro i hi; exact (effs i _ (Array.getElem?_eq_getElem hi)).1
  · intro i hi hw
    have ho : ops[i]? = some ops[i] := Array.getElem?_eq_getElem hi
    cases hrd : readOp ops[i].op with
    | true =>
      intro b _
      have hs := step i _ ho
      cases hb : orderedAt ops (Region.before ops) i with
      | true =>
        rw [hb] at hs
        rw [(operA_read hrd hs).1]
      | false =>
        rw [hb] at hs
        obtain ⟨h1, hs, hh⟩ := hs
        rw [hh, (operA_read hrd hs).1]
    | false =>
    cases hq : quietOp ops[i].op with
    | false =>
      cases hb : orderedAt ops (Region.before ops) i with
      | true => exact (hw ⟨_, ho, hq, hrd, hb⟩).elim
      | false => exact (effs i _ ho).2.1 hb
    | true =>
      intro b _
      have hs := step i _ ho
      cases hb : orderedAt ops (Region.before ops) i with
      | true =>
        rw [hb] at hs
        rw [(operA_quiet hq hs).1]
      | false =>
        rw [hb] at hs
        obtain ⟨h1, hs, hh⟩ := hs
        rw [hh, (operA_quiet hq hs).1]
  · intro i o ho hq
    have hs := step i _ ho
    cases hb : orderedAt ops (Region.before ops) i with
    | true =>
      rw [hb] at hs
      exact operA_quiet hq hs
    | false =>
      rw [hb] at hs
      obtain ⟨h1, hs, hh⟩ := hs
      have := operA_quiet hq hs
      exact ⟨by rw [hh, this.1], this.2⟩
  · intro i o ho hq
    have hs := step i _ ho
    cases hb : orderedAt ops (Region.before ops) i with
    | true =>
      rw [hb] at hs
      exact operA_read hq hs
    | false =>
      rw [hb] at hs
      obtain ⟨h1, hs, hh⟩ := hs
      have := operA_read hq hs
      exact ⟨by rw [hh, this.1], this.2⟩
  · intro i o ho ⟨o', ho', hq, hrd, hb⟩
    have hs := step i _ ho
    rw [hb] at hs
    exact hs
  · intro i o ho hq hrd hw
    have hs := step i _ ho
    cases hb : orderedAt ops (Region.before ops) i with
    | true => exact (hw ⟨_, ho, hq, hrd, hb⟩).elim
    | false => rw [hb] at hs; exact hs

end
end Go.Abs

/-
  A region whose order is open, second half: any order comes to what the text's order comes to.
-/
namespace Go.Abs
open Go.RowKit

section
variable {P : Program} {n : Nat} {call : FuncId → List V → Heap → Option Rets} {ops : Array Oper} {d0 : Nat → Prop} {st : Nat → Env × Heap}

/-! ### from one place of the text to a later one -/

theorem Tr.env_kept (ht : Tr P call n ops d0 st) (t : Nat) : ∀ (d k : Nat), k + d ≤ ops.size → (∀ j, k ≤ j → j < k + d → ∀ o, ops[j]? = some o → o.dst ≠ some t) → (st (k + d)).1.get t = (st k).1.get t
  | 0, _, _, _ => rfl
  | d + 1, k, hk, hw => by
    have ho : ops[k + d]? = some ops[k + d] := Array.getElem?_eq_getElem (by omega)
    obtain ⟨v, hv⟩ := ht.put (k + d) _ ho
    have h1 := putA_get hv t
    rw [if_neg (hw (k + d) (by omega) (by omega) _ ho)] at h1
    rw [show k + (d + 1) = k + d + 1 by omega, h1]
    exact Tr.env_kept ht t d k (by omega) fun j h1 h2 => hw j h1 (by omega)

theorem Tr.eff_to (ht : Tr P call n ops d0 st) : ∀ (d k : Nat), k + d ≤ ops.size → Eff (st k).2 (st (k + d)).2
  | 0, _, _ => Eff.refl _
  | d + 1, k, hk => (Tr.eff_to ht d k (by omega)).trans (ht.eff (k + d) (by omega))

theorem Tr.same_to (ht : Tr P call n ops d0 st) : ∀ (d k : Nat), k + d ≤ ops.size → (∀ j, k ≤ j → j < k + d → ¬ isW ops j) → ∀ b, b < (st k).2.next → (st (k + d)).2.get b = (st k).2.get b
  | 0, _, _, _, _, _ => rfl
  | d + 1, k, hk, hw, b, hb => by
    have h1 := (Tr.eff_to ht d k (by omega)).next
    rw [show k + (d + 1) = k + d + 1 by omega, ht.same (k + d) (by omega) (hw (k + d) (by omega) (by omega)) b (by omega)]
    exact Tr.same_to ht d k (by omega) (fun j h1 h2 => hw j h1 (by omega)) b hb

theorem Tr.next_mono (ht : Tr P call n ops d0 st) {i j : Nat} (h : i ≤ j) (hj : j ≤ ops.size) : (st i).2.next ≤ (st j).2.next := by
  have := (Tr.eff_to ht (j - i) i (by omega)).next
  rwa [show i + (j - i) = j by omega] at this

/-- A relation carried on to a later heap that has the same blocks. -/
theorem Post0.later {φ0 φ : Phi} {h0 h h2 : Heap} {w0 w : World} (hp : Post0 φ0 h0 w0 φ h w) (he : Eff h h2) (hs : ∀ b, b < h.next → h2.get b = h.get b) : Post0 φ0 h0 w0 φ h2 w where
  pre := hp.pre
  ext := hp.ext
  fr := hp.fr
  eff := hp.eff.trans he
  rel := ⟨fun b x hd hx => hp.rel.blocks b x hd (by rw [← hs b (hp.rel.lt b hd)]; exact hx), fun b hd => Nat.lt_of_lt_of_le (hp.rel.lt b hd) he.next, hp.rel.size,
    fun b b' hd hd' hl hv hv' e => hp.rel.inj b b' hd hd' (by rw [← he.lim0]; exact hl) (he.dead b (hp.rel.lt b hd) hv) (he.dead b' (hp.rel.lt b' hd') hv') e,
    by have := hp.rel.lims; have h1 := he.lim0; have h2 := he.lim; have h3 := he.next; omega, by rw [he.lim0]; exact hp.rel.fz⟩
  news := fun b hd hn => by
    obtain ⟨h1, h2⟩ := hp.news b hd hn
    exact ⟨h1, fun hv => h2 (he.dead b (hp.rel.lt b hd) hv)⟩

/-- The names below a bound. -/
def Phi.cut (φ : Phi) (l : Nat) : Phi := { φ with dom := fun b => φ.dom b ∧ b < l }

theorem Ext.cut (φ : Phi) (l : Nat) : Ext (φ.cut l) φ := ⟨fun _ h => h.1, fun _ _ => rfl, fun _ _ => rfl, fun _ _ => rfl, rfl⟩

mutual
theorem V.ok_and {d d' : Nat → Prop} : ∀ (v : V), v.ok d → v.ok d' → v.ok fun b => d b ∧ d' b
  | .bool _, _, _ => trivial
  | .int _ _, _, _ => trivial
  | .str _, _, _ => trivial
  | .ptr none, _, _ => trivial
  | .ptr (some _), h, h' => ⟨h, h'⟩
  | .slice none _ _, _, _ => trivial
  | .slice (some _) _ _, h, h' => ⟨h, h'⟩
  | .oslice _ _ _ _, h, h' => ⟨h, h'⟩
  | .dang _, _, _ => trivial
  | .map none, _, _ => trivial
  | .map (some _), h, h' => ⟨h, h'⟩
  | .func _ f c, h, h' => ⟨okL_and f h.1 h'.1, okL_and c h.2 h'.2⟩
  | .nilFunc, _, _ => trivial
  | .iface _ v, h, h' => V.ok_and v h h'
  | .nilIface, _, _ => trivial
  | .agg cs, h, h' => okL_and cs h h'
  | .tuple vs, h, h' => okL_and vs h h'
theorem okL_and {d d' : Nat → Prop} : ∀ (l : List V), okL d l → okL d' l → okL (fun b => d b ∧ d' b) l
  | [], _, _ => trivial
  | v :: vs, h, h' => ⟨V.ok_and v h.1 h'.1, okL_and vs h.2 h'.2⟩
end

/-- A block whose names lie below the cut. -/
theorem BlkRel.cut {φ : Phi} {w : World} {b : Nat} {x : Blk} {l : Nat} (h : BlkRel φ w b x) (hx : x.below l) : BlkRel (φ.cut l) w b x := by
  cases x with
  | row o cells =>
    obtain ⟨C, t, lo, hi, h1, h2, h3, h4, h5, h6⟩ := h
    refine ⟨C, t, lo, hi, h1, h2, h3, h4, fun i v hi => ?_, okL_and _ h6 hx⟩
    rw [show (φ.cut l).base b = φ.base b from rfl, h5 i v hi, ← conc_ext (Ext.cut φ l) v]
    have hm := List.mem_of_getElem? hi
    exact V.ok_and v (okL_iff.1 h6 v hm) (okL_iff.1 hx v hm)
  | map es clock =>
    obtain ⟨E, h1, h2, h3⟩ := h
    refine ⟨E, h1, ?_, fun e hm => ⟨⟨V.ok_and _ (h3 e hm).1.1 (hx e hm).1, V.ok_and _ (h3 e hm).1.2 (hx e hm).2⟩, (h3 e hm).2⟩⟩
    rw [h2]
    refine List.map_congr_left fun e hm => ?_
    have k1 : V.ok (φ.cut l).dom e.1 := V.ok_and _ (h3 e hm).1.1 (hx e hm).1
    have k2 : V.ok (φ.cut l).dom e.2.1 := V.ok_and _ (h3 e hm).1.2 (hx e hm).2
    simp only [concE, conc_ext (Ext.cut φ l) _ k1, conc_ext (Ext.cut φ l) _ k2]
  | sIter s pos => exact h
  | mIter m since seen stepped =>
    obtain ⟨h1, h2, h3⟩ := h
    exact ⟨h1, h2, fun r hr => ⟨h3 r hr, hx r hr⟩⟩
  | dead => trivial

theorem Tr.cut (ht : Tr P call n ops d0 st) {φ : Phi} {w : World} {u q : Nat} (hu : u ≤ q) (hq : q ≤ ops.size) (hw : ∀ j, u ≤ j → j < q → ¬ isW ops j) (hr : Rel φ (st q).2 w)
    (hd : ∀ b, φ.dom b → d0 b ∨ (st 0).2.next ≤ b) : Rel (φ.cut (st u).2.next) { (st u).2 with lim := (st u).2.next } w := by
  have hs : ∀ b, b < (st u).2.next → (st q).2.get b = (st u).2.get b := by
    have := ht.same_to (q - u) u (by omega) (fun j h1 h2 => hw j h1 (by omega))
    rwa [show u + (q - u) = q by omega] at this
  have he : Eff (st u).2 (st q).2 := by
    have := ht.eff_to (q - u) u (by omega)
    rwa [show u + (q - u) = q by omega] at this
  have hlv : ∀ b, b < (st u).2.next → live (st u).2 b → live (st q).2 b := fun b hb ⟨x, hx, hn⟩ => ⟨x, by rw [hs b hb]; exact hx, hn⟩
  refine ⟨fun b x hb hx => ?_, fun b hb => hb.2, fun b hb => hr.size b hb.1, fun b b' hb hb' hl hv hv' e => ?_, ?_, by rw [← he.lim0]; exact hr.fz⟩
  · exact (hr.blocks b x hb.1 (by rw [hs b hb.2]; exact hx)).cut (ht.blks u (by omega) b x (hd b hb.1) hb.2 hx)
  · exact hr.inj b b' hb.1 hb'.1 (by rw [he.lim0]; exact hl) (hlv b hb.2 hv) (hlv b' hb'.2 hv') e
  · have := ht.lims u (by omega)
    exact ⟨by show (st u).2.lim0 ≤ (st u).2.next; omega, Nat.le_refl _⟩

/-- Names of a range from one, all others from another. -/
def Phi.join (φ φ1 : Phi) (l u : Nat) : Phi :=
  { dom := fun b => φ.dom b ∨ (l ≤ b ∧ φ1.dom b), blk := fun b => if l ≤ b ∧ b < u then φ1.blk b else φ.blk b, base := fun b => if l ≤ b ∧ b < u then φ1.base b else φ.base b,
    tot := fun b => if l ≤ b ∧ b < u then φ1.tot b else φ.tot b, fz := φ.fz }

/-- A step that writes only what it made itself, taken out of the text's order. -/
theorem Post0.loose {φ0 φ φ1 : Phi} {h0 h h1 H : Heap} {w0 w w' : World} (hp : Post0 φ0 h0 w0 φ H w) (hs : Post0 (φ.cut h.next) { h with lim := h.next } w φ1 h1 w')
    (hdis : ∀ b, φ.dom b → ¬ (h.next ≤ b ∧ b < h1.next)) (hn : h0.next ≤ h.next) (hl0 : h1.lim0 = H.lim0) (hle : h1.next ≤ H.next) (hsame : ∀ b, b < h1.next → H.get b = h1.get b) :
    Post0 φ0 h0 w0 (φ.join φ1 h.next h1.next) H w' ∧ Ext φ (φ.join φ1 h.next h1.next) ∧ Ext φ1 (φ.join φ1 h.next h1.next) := by
  have hlt1 : ∀ b, φ1.dom b → b < h1.next := hs.rel.lt
  have hold : ∀ k, k < w.heap.size → w'.heap[k]? = w.heap[k]? := fun k hk => hs.fr.block k hk fun b hb hl _ => by
    have h2 := hb.2
    have h3 : h.next ≤ b := hl
    omega
  have ext0 : Ext φ (φ.join φ1 h.next h1.next) :=
    ⟨fun b hb => .inl hb, fun b hb => if_neg (hdis b hb), fun b hb => if_neg (hdis b hb), fun b hb => if_neg (hdis b hb), rfl⟩
  have low1 : ∀ b, φ1.dom b → b < h.next → (φ.cut h.next).dom b := fun b hb hl => by
    rcases Classical.em ((φ.cut h.next).dom b) with h2 | h2
    · exact h2
    · have h3 : h.next ≤ b := (hs.news b hb h2).1
      omega
  have ext1 : Ext φ1 (φ.join φ1 h.next h1.next) := by
    refine ⟨fun b hb => ?_, fun b hb => ?_, fun b hb => ?_, fun b hb => ?_, hs.ext.fz.symm⟩
    · rcases Nat.lt_or_ge b h.next with hl | hl
      · exact .inl (low1 b hb hl).1
      · exact .inr ⟨hl, hb⟩
    all_goals
      simp only [Phi.join]
      rcases Nat.lt_or_ge b h.next with hl | hl
      · rw [if_neg (by omega)]
        have h2 := low1 b hb hl
        first | exact (hs.ext.blk b h2).symm | exact (hs.ext.base b h2).symm | exact (hs.ext.tot b h2).symm
      · rw [if_pos ⟨hl, hlt1 b hb⟩]
  have hnew : ∀ b, φ1.dom b → h.next ≤ b → live H b → w.heap.size ≤ φ1.blk b := fun b hb hl hv => by
    have hnd : ¬ (φ.cut h.next).dom b := fun h2 => by have := h2.2; omega
    have hv1 : live h1 b := by
      obtain ⟨x, hx, hd⟩ := hv
      exact ⟨x, by rw [← hsame b (hlt1 b hb)]; exact hx, hd⟩
    rcases (hs.news b hb hnd).2 hv1 with h2 | ⟨b0, h2, h3, -⟩
    · exact h2
    · have h4 := h2.2
      have h5 : h.next ≤ b0 := h3
      omega
  refine ⟨⟨hp.pre, hp.ext.trans ext0, ⟨?_, ?_, ?_, ?_, hp.rel.lims, hp.rel.fz⟩, ?_, ?_, hp.eff⟩, ext0, ext1⟩
  · intro b x hb hx
    rcases hb with hb | ⟨hl, hb⟩
    · exact (hp.rel.blocks b x hb hx).keep ext0 hb (hold _ (hp.rel.size b hb))
    · exact (hs.rel.blocks b x hb (by rw [← hsame b (hlt1 b hb)]; exact hx)).keep ext1 hb rfl
  · intro b hb
    rcases hb with hb | ⟨hl, hb⟩
    · exact hp.rel.lt b hb
    · exact Nat.lt_of_lt_of_le (hlt1 b hb) hle
  · intro b hb
    rcases hb with hb | ⟨hl, hb⟩
    · rw [ext0.blk b hb]; exact Nat.lt_of_lt_of_le (hp.rel.size b hb) hs.fr.size
    · rw [ext1.blk b hb]; exact hs.rel.size b hb
  · intro b b' hb hb' hl hv hv' e
    rcases hb with hb | ⟨g, hb⟩ <;> rcases hb' with hb' | ⟨g', hb'⟩
    · rw [ext0.blk b hb, ext0.blk b' hb'] at e
      exact hp.rel.inj b b' hb hb' hl hv hv' e
    · rw [ext0.blk b hb, ext1.blk b' hb'] at e
      have h2 := hnew b' hb' g' hv'
      have h3 := hp.rel.size b hb
      omega
    · rw [ext1.blk b hb, ext0.blk b' hb'] at e
      have h2 := hnew b hb g hv
      have h3 := hp.rel.size b' hb'
      omega
    · rw [ext1.blk b hb, ext1.blk b' hb'] at e
      have lv : ∀ c, φ1.dom c → live H c → live h1 c := fun c hc ⟨x, hx, hd⟩ => ⟨x, by rw [← hsame c (hlt1 c hc)]; exact hx, hd⟩
      exact hs.rel.inj b b' hb hb' (by rw [hl0]; exact hl) (lv b hb hv) (lv b' hb' hv') e
  · exact ⟨hs.fr.os.trans hp.fr.os, hs.fr.tape.trans hp.fr.tape, hs.fr.output.trans hp.fr.output, Nat.le_trans hp.fr.size hs.fr.size,
      fun k hk hb => (hold k (Nat.lt_of_lt_of_le hk hp.fr.size)).trans (hp.fr.block k hk hb)⟩
  · intro b hb hn0
    by_cases hbd : φ.dom b
    · rw [ext0.blk b hbd]; exact hp.news b hbd hn0
    · obtain ⟨g, hb1⟩ := hb.resolve_left hbd
      refine ⟨Nat.le_trans hn g, fun hv => .inl ?_⟩
      rw [ext1.blk b hb1]
      exact Nat.le_trans hp.fr.size (hnew b hb1 g hv)

end
end Go.Abs

/-
  A region whose order is open: the invariant, and the whole.
-/
namespace Go.Abs
open Go.RowKit

section
variable {P : Program} {n : Nat} {call : FuncId → List V → Heap → Option Rets} {ops : Array Oper} {st : Nat → Env × Heap} {φ0 : Phi} {w0 : World} {a0 : Act}

/-- After the operations of 'S': the names' places, the next operation that must be just there. -/
structure Inv (n : Nat) (ops : Array Oper) (st : Nat → Env × Heap) (φ0 : Phi) (w0 : World) (a0 : Act) (S : Nat → Prop) (φ : Phi) (q : Nat) (a : Act) (w : World) : Prop where
  closed : Closed ops S
  le : q ≤ ops.size
  low : ∀ i, i < q → isW ops i → S i
  here : q < ops.size → isW ops q ∧ ¬ S q
  high : ∀ i, q ≤ i → isLoud ops i → ¬ S i
  post : Post0 φ0 (st 0).2 w0 φ (st q).2 w
  gap : ∀ b, φ.dom b → ∀ j, j < ops.size → ¬ S j → ¬ ((st j).2.next ≤ b ∧ b < (st (j + 1)).2.next)
  known : ∀ j, j < ops.size → S j → ∀ b, (st j).2.next ≤ b → b < (st (j + 1)).2.next → φ.dom b
  got : ∀ i o t v, S i → ops[i]? = some o → o.dst = some t → (st (i + 1)).1.get t = some v → a.tmps[t]? = some (conc φ v) ∧ v.ok φ.dom
  old : ∀ t v, (∀ i o, S i → ops[i]? = some o → o.dst ≠ some t) → (st 0).1.get t = some v → a.tmps[t]? = some (conc φ v) ∧ v.ok φ.dom
  size : a.tmps.size = n
  defers : a.defers = a0.defers

theorem isW_any {i : Nat} (h : isW ops i) {j : Nat} {p : Oper} (hp : ops[j]? = some p) (hq : quietOp p.op = false) (hne : i ≠ j) :
    ((Region.before ops).getD i 0).testBit j = true ∨ ((Region.before ops).getD j 0).testBit i = true ∨ (readOp p.op = true ∧ writeAt ops i = true) := by
  obtain ⟨o, ho, -, -, hb⟩ := h
  unfold orderedAt at hb
  have h1 := List.all_eq_true.1 hb j (List.mem_range.2 (Array.getElem?_eq_some_iff.1 hp).1)
  rw [hp] at h1
  simp only at h1
  have hbeq : Nat.beq i j = false := by
    cases hc : Nat.beq i j with
    | false => rfl
    | true => exact absurd (Nat.eq_of_beq_eq_true hc) hne
  rw [hq, hbeq, Bool.false_or, Bool.false_or, Bool.or_eq_true, Bool.or_eq_true, Bool.and_eq_true] at h1
  exact or_assoc.1 h1

theorem isW_spec {i : Nat} (h : isW ops i) {j : Nat} (hj : isLoud ops j) (hne : i ≠ j) : ((Region.before ops).getD i 0).testBit j = true ∨ ((Region.before ops).getD j 0).testBit i = true := by
  obtain ⟨p, hp, hpq, hpr⟩ := hj
  rcases isW_any h hp hpq hne with h1 | h1 | h1
  · exact .inl h1
  · exact .inr h1
  · rw [hpr] at h1; cases h1.1

theorem isW.loud {i : Nat} (h : isW ops i) : isLoud ops i := let ⟨o, h1, h2, h3, _⟩ := h; ⟨o, h1, h2, h3⟩

theorem settled_eval (ht : Tr P call n ops φ0.dom st) {x : Operand} {i : Nat} (hi : i ≤ ops.size) (hs : settled ops x i = true) : evalA (st ops.size).1 x = evalA (st i).1 x := by
  cases x with
  | tmp t =>
    have := ht.env_kept t (ops.size - i) i (by omega) (fun k h1 h2 o ho => by
      have h3 := List.all_eq_true.1 hs k (List.mem_range.2 (Array.getElem?_eq_some_iff.1 ho).1)
      rw [ho] at h3
      simp only [Bool.or_eq_true, Bool.not_eq_true'] at h3
      rcases h3 with h3 | h3
      · have : k < i := Nat.le_of_ble_eq_true h3
        omega
      · intro e; rw [e] at h3; simp at h3)
    rw [show i + (ops.size - i) = ops.size by omega] at this
    exact this
  | const c => rfl
  | global g => rfl
  | func f => rfl

/-- A store and a load in no order: two blocks. -/
theorem apart_spec (ht : Tr P call n ops φ0.dom st) (ha : apartOk ops (st ops.size).1 = true) {i j : Nat} {o p : Oper} (ho : ops[i]? = some o) (hp : ops[j]? = some p) (hw : writeAt ops i = true) (hrd : readOp p.op = true)
    (h1 : ¬ ((Region.before ops).getD i 0).testBit j = true) (h2 : ¬ ((Region.before ops).getD j 0).testBit i = true) :
    ∃ T x v T' y, o.op = .store T x v ∧ p.op = .load T' y ∧ ∃ a b, evalA (st i).1 x = some (.ptr (some a)) ∧ evalA (st j).1 y = some (.ptr (some b)) ∧ a.1 ≠ b.1 := by
  have hi := (Array.getElem?_eq_some_iff.1 ho).1
  have hj := (Array.getElem?_eq_some_iff.1 hp).1
  unfold apartOk at ha
  have h3 := List.all_eq_true.1 ha i (List.mem_range.2 hi)
  rw [hw, Bool.not_true, Bool.false_or] at h3
  have h4 := List.all_eq_true.1 h3 j (List.mem_range.2 hj)
  rw [Bool.or_eq_true, Bool.or_eq_true] at h4
  have h5 : apartPair ops (st ops.size).1 i j = true := (h4.resolve_left (fun h => h.elim h1 h2))
  obtain ⟨T, x, v, hox⟩ : ∃ T x v, o.op = .store T x v := by
    unfold writeAt at hw
    rw [ho] at hw
    simp only at hw
    cases hop : o.op <;> rw [hop] at hw <;> first | (cases hw; done) | exact ⟨_, _, _, rfl⟩
  obtain ⟨T', y, hpy⟩ : ∃ T' y, p.op = .load T' y := by
    cases hop : p.op <;> rw [hop] at hrd <;> first | (cases hrd; done) | exact ⟨_, _, rfl⟩
  refine ⟨T, x, v, T', y, hox, hpy, ?_⟩
  unfold apartPair at h5
  rw [ho, hp] at h5
  simp only [hox, hpy, Bool.and_eq_true] at h5
  obtain ⟨⟨g1, g2⟩, g3⟩ := h5
  rw [settled_eval ht (by omega) g1, settled_eval ht (by omega) g2] at g3
  unfold twoBlocks at g3
  split at g3
  · rename_i a b e1 e2
    refine ⟨a, b, e1, e2, fun e => ?_⟩
    rw [e] at g3
    simp at g3
  · cases g3

/-- A store leaves other blocks. -/
theorem store_keeps (ht : Tr P call n ops φ0.dom st) {k : Nat} {o : Oper} (ho : ops[k]? = some o) (hW : isW ops k) {T : TypeId} {x v : Operand} (hop : o.op = .store T x v) {a : Nat × Nat} (hx : evalA (st k).1 x = some (.ptr (some a))) {c : Nat} (hne : a.1 ≠ c) :
    (st (k + 1)).2.get c = (st k).2.get c := by
  have hl := ht.fixed k o ho hW
  have hlim := ht.lims k (by have := (Array.getElem?_eq_some_iff.1 ho).1; omega)
  unfold operA at hl
  split at hl
  · cases hl
  · unfold putOne at hl
    split at hl
    · simp only [Option.some.injEq, List.cons.injEq, and_true] at hl
      rw [← hl]
    · cases hl
  · simp only [runOper, stepA, hop, stepOp, sStore, hx] at hl
    split at hl
    · cases hl
    · rename_i s hs
      split at hs
      · rename_i u w e1 e2
        simp only [Option.some.injEq] at e1
        subst e1
        unfold skipS at hs
        split at hs
        · rename_i h' hst
          simp only [Option.some.injEq] at hs; subst hs
          simp only [leaveA, putOne] at hl
          split at hl
          · simp only [Option.some.injEq, List.cons.injEq, and_true] at hl
            rw [← hl]
            unfold storeA at hst
            split at hst
            · rename_i a' m e3 e4
              cases e3
              split at hst
              · obtain ⟨o', cs, g1, g2, g3, g4, rfl⟩ := Heap.store_some hst
                rw [Heap.get_set _ (by omega), if_neg (fun e => hne e.symm)]
              · cases hst
            · cases hst
          · cases hl
        · cases hs
      · cases hs

theorem next_W (ops : Array Oper) : ∀ (d k : Nat), k + d = ops.size → ∃ q, k ≤ q ∧ q ≤ ops.size ∧ (q < ops.size → isW ops q) ∧ ∀ j, k ≤ j → j < q → ¬ isW ops j
  | 0, k, h => ⟨k, Nat.le_refl _, by omega, fun h1 => by omega, fun j h1 h2 => by omega⟩
  | d + 1, k, h => by
    by_cases hw : isW ops k
    · exact ⟨k, Nat.le_refl _, by omega, fun _ => hw, fun j h1 h2 => by omega⟩
    · obtain ⟨q, h1, h2, h3, h4⟩ := next_W ops d (k + 1) (by omega)
      refine ⟨q, by omega, h2, h3, fun j g1 g2 => ?_⟩
      by_cases e : j = k
      · subst e; exact hw
      · exact h4 j (by omega) g2

/-- What an operation looks at, when its turn has come. -/
theorem Inv.reads (hs : slotsOk ops = true) (ht : Tr P call n ops φ0.dom st) {S : Nat → Prop} {φ : Phi} {q : Nat} {a : Act} {w : World} (hi : Inv n ops st φ0 w0 a0 S φ q a w) {i : Nat} {o : Oper} (ho : ops[i]? = some o) (hn : ¬ S i)
    (hr : ∀ e ∈ o.after.toList, Region.binds .any e = true → S e.on) : ∀ t ∈ o.looksAt ops, ∀ v, (st i).1.get t = some v → a.tmps[t]? = some (conc φ v) ∧ v.ok φ.dom := by
  intro t hmem v hv
  have hisz : i < ops.size := (Array.getElem?_eq_some_iff.1 ho).1
  by_cases hex : ∃ (j : Nat) (p : Oper), ops[j]? = some p ∧ p.dst = some t
  · obtain ⟨j, p, hp, hpd⟩ := hex
    have huniq : ∀ k p', ops[k]? = some p' → k ≠ j → p'.dst ≠ some t := fun k p' hp' hne => (slots_slot hs hp hpd hp' (fun e => hne e.symm)).1
    have keep0 : j ≥ i → (st i).1.get t = (st 0).1.get t := fun hge => by
      have := ht.env_kept t i 0 (by omega) (fun k _ h2 o' ho' => huniq k o' ho' (by omega))
      rwa [Nat.zero_add] at this
    by_cases e : j = i
    · subst e
      rw [keep0 (Nat.le_refl _)] at hv
      refine hi.old t v (fun k p' hk hp' => ?_) hv
      exact huniq k p' hp' (fun e => hn (e ▸ hk))
    · rcases (slots_slot hs hp hpd ho e).2 hmem with hb | hb
      · have hlt := before_lt hs _ _ hb
        have hS : S j := before_closed hi.closed i j o ho hr hb
        have := ht.env_kept t (i - (j + 1)) (j + 1) (by omega) (fun k h1 _ o' ho' => huniq k o' ho' (by omega))
        rw [show j + 1 + (i - (j + 1)) = i by omega] at this
        rw [this] at hv
        exact hi.got j p t v hS hp hpd hv
      · have hlt := before_lt hs _ _ hb
        have hnS : ¬ S j := fun hSj => hn (before_closed hi.closed j i p hp (fun e' he' hb' => hi.closed j hSj p hp e' he' hb') hb)
        rw [keep0 (by omega)] at hv
        refine hi.old t v (fun k p' hk hp' => ?_) hv
        exact huniq k p' hp' (fun e => hnS (e ▸ hk))
  · have h0 := ht.env_kept t i 0 (by omega) (fun k _ _ o' ho' he => hex ⟨k, o', ho', he⟩)
    rw [Nat.zero_add] at h0
    rw [h0] at hv
    exact hi.old t v (fun k p' _ hp' he => hex ⟨k, p', hp', he⟩) hv

theorem put_tmps {a : Act} {dst : Option Tmp} {v : Value} (t : Nat) (hne : dst ≠ some t) : (a.put dst v).tmps[t]? = a.tmps[t]? := by
  cases dst with
  | none => rfl
  | some d =>
    simp only [Act.put]
    exact Array.getElem?_setIfInBounds_ne (fun e => hne (by rw [e]))

/-- One operation, of which the slots that it looks at are known. -/
theorem wpOp_one (hc : CallOk P call) {φr : Phi} {h h' : Heap} {w : World} {a : Act} {Q : Exit → Act → World → Prop} {K : Act → World → Prop} (hr : Rel φr h w) (hsz : a.tmps.size = n) {i : Nat} {o : Oper} (ho : ops[i]? = some o) {env env' : Env}
    (hv : ∀ t ∈ o.looksAt ops, ∀ v, env.get t = some v → a.tmps[t]? = some (conc φr v) ∧ v.ok φr.dom) (hop : operA P call n ops o env h = some [(env', h')])
    (hK : ∀ φ' w' v, Post φr h w φ' h' w' → putA n env o.dst v = some env' → v.ok φ'.dom → K (a.put o.dst (conc φ' v)) w') : wpOp P ops Q i K a w := by
  obtain ⟨e, he⟩ := env_restrict env (o.looksAt ops)
  have hE : EnvRel φr n e a.tmps := by
    refine ⟨hsz, fun t v hg => ?_⟩
    rw [he t] at hg
    by_cases hm : t ∈ o.looksAt ops
    · rw [if_pos hm] at hg; exact hv t hm v hg
    · rw [if_neg hm] at hg; cases hg
  obtain ⟨c1, c2⟩ := looks_congr (env := e) (env' := env) (ops := ops) (o := o) (fun t hm => by rw [he t, if_pos hm])
  obtain ⟨v0, p0, g0⟩ := operA_one hop
  obtain ⟨e', p1, g1⟩ := g0 e c1 c2
  have key := operA_wp hc hr hE g1 (Q := Q) (K := K) (fun p hp φ' w' v q1 q2 q3 => by
    rw [List.mem_singleton] at hp; subst hp
    refine hK φ' w' v q1 ?_ q3
    cases hd : o.dst with
    | none => rw [hd] at p0; exact p0
    | some d =>
      rw [hd] at p0 p1 q2
      have e1 := putA_get p1 d
      have e2 := putA_get q2 d
      rw [if_pos rfl] at e1 e2
      rw [e1] at e2
      simp only [Option.some.injEq] at e2
      rw [← e2]; exact p0)
  unfold wpOp
  rw [ho]
  simp only
  split
  · rename_i hw; rw [if_pos hw] at key; exact .inl key
  · rename_i hw; rw [if_neg hw] at key; exact key

/-- The slots, after one more operation. -/
theorem Inv.slots (hs : slotsOk ops = true) {S : Nat → Prop} {φ φ' : Phi} {q : Nat} {a : Act} {w : World} (hi : Inv n ops st φ0 w0 a0 S φ q a w) {i : Nat} {o : Oper} (ho : ops[i]? = some o) (hn : ¬ S i) (he : Ext φ φ') {v : V}
    (hp : putA n (st i).1 o.dst v = some (st (i + 1)).1) (hv : v.ok φ'.dom) {x : Value} (hx : x = conc φ' v) :
    (∀ i' o' t u, (i' = i ∨ S i') → ops[i']? = some o' → o'.dst = some t → (st (i' + 1)).1.get t = some u → (a.put o.dst x).tmps[t]? = some (conc φ' u) ∧ u.ok φ'.dom) ∧
    (∀ t u, (∀ i' o', (i' = i ∨ S i') → ops[i']? = some o' → o'.dst ≠ some t) → (st 0).1.get t = some u → (a.put o.dst x).tmps[t]? = some (conc φ' u) ∧ u.ok φ'.dom) ∧
    (a.put o.dst x).tmps.size = n ∧ (a.put o.dst x).defers = a0.defers := by
  subst hx
  have lift : ∀ (t : Nat) (u : V), a.tmps[t]? = some (conc φ u) ∧ u.ok φ.dom → o.dst ≠ some t → (a.put o.dst (conc φ' v)).tmps[t]? = some (conc φ' u) ∧ u.ok φ'.dom := fun t u ⟨h1, h2⟩ hne =>
    ⟨by rw [put_tmps t hne, conc_ext he u h2]; exact h1, V.ok_mono he.dom u h2⟩
  refine ⟨fun i' o' t u hS ho' hd hg => ?_, fun t u hno hg => ?_, ?_, by rw [put_defers]; exact hi.defers⟩
  · by_cases e : i' = i
    · subst e
      rw [ho] at ho'; simp only [Option.some.injEq] at ho'; subst ho'
      have h1 := putA_get hp t
      rw [if_pos hd, hg] at h1
      simp only [Option.some.injEq] at h1; subst h1
      refine ⟨?_, hv⟩
      rw [hd] at hp ⊢
      have hlt := putA_lt hp
      simp only [Act.put]
      rw [Array.getElem?_setIfInBounds_self_of_lt (by rw [hi.size]; exact hlt)]
    · have hS' := hS.resolve_left e
      exact lift t u (hi.got i' o' t u hS' ho' hd hg) (slots_slot hs ho' hd ho e).1
  · exact lift t u (hi.old t u (fun i' o' hS ho' => hno i' o' (.inr hS) ho') hg) (hno i o (.inl rfl) ho)
  · cases hd : o.dst with
    | none => exact hi.size
    | some d => simp [Act.put, hi.size]

/-- A load reads in the world what it reads in the text's order. -/
theorem Inv.read_same (hs : slotsOk ops = true) (ht : Tr P call n ops φ0.dom st) (ha : apartOk ops (st ops.size).1 = true) {S : Nat → Prop} {φ : Phi} {q : Nat} {a : Act} {w : World} (hi : Inv n ops st φ0 w0 a0 S φ q a w) {i : Nat} {o : Oper} (ho : ops[i]? = some o) (hn : ¬ S i)
    (hr : ∀ e ∈ o.after.toList, Region.binds .any e = true → S e.on) (hrd : readOp o.op = true) {T : TypeId} {y : Operand} (hop : o.op = .load T y) {c f : Nat} (hy : evalA (st i).1 y = some (.ptr (some (c, f)))) : (st q).2.get c = (st i).2.get c := by
  have hisz : i < ops.size := (Array.getElem?_eq_some_iff.1 ho).1
  have hle := hi.le
  have hquiet : quietOp o.op = false := by rw [hop]; rfl
  have hcd : φ.dom c ∧ c < (st i).2.next := by
    cases y with
    | tmp t =>
      have hm : t ∈ o.looksAt ops := List.mem_append_left _ (List.mem_filterMap.2 ⟨.tmp t, by rw [hop]; simp [Op.operands], rfl⟩)
      exact ⟨(hi.reads hs ht ho hn hr t hm _ hy).2, ht.vals i (by omega) t _ hy⟩
    | const k =>
      obtain ⟨-, h1⟩ := ofValue_conc (φ := φ) hy
      exact (h1 fun _ => False).elim
    | global g => cases hy
    | func g => cases hy
  have hcq : c < (st q).2.next := hi.post.rel.lt c hcd.1
  -- one operation that must be just there, and stands in no order to the load
  have one : ∀ k, isW ops k → k ≠ i → ¬ ((Region.before ops).getD k 0).testBit i = true → ¬ ((Region.before ops).getD i 0).testBit k = true → (st (k + 1)).2.get c = (st k).2.get c := by
    intro k hk hne h1 h2
    obtain ⟨p, hp, -, -⟩ := hk.loud
    have hw : writeAt ops k = true := by
      rcases isW_any hk ho hquiet hne with h3 | h3 | h3
      · exact (h1 h3).elim
      · exact (h2 h3).elim
      · exact h3.2
    obtain ⟨T1, x, v, T2, y2, e1, e2, a1, b1, g1, g2, g3⟩ := apart_spec ht ha hp ho hw hrd h1 h2
    rw [hop] at e2
    cases e2
    rw [hy] at g2
    simp only [Option.some.injEq, V.ptr.injEq] at g2
    subst g2
    exact store_keeps ht hp hk e1 g1 g3
  rcases Nat.lt_or_ge q i with hqi | hqi
  · have key : ∀ d, q + d ≤ i → (st (q + d)).2.get c = (st q).2.get c := by
      intro d
      induction d with
      | zero => intro _; rfl
      | succ d ih =>
        intro hd
        rw [← ih (by omega)]
        show (st (q + d + 1)).2.get c = _
        by_cases hk : isW ops (q + d)
        · refine one _ hk (by omega) (fun hb => ?_) (fun hb => ?_)
          · have := before_lt hs _ _ hb; omega
          · exact hi.high (q + d) (by omega) hk.loud (before_closed hi.closed i (q + d) o ho hr hb)
        · exact ht.same (q + d) (by omega) hk c (Nat.lt_of_lt_of_le hcq (ht.next_mono (by omega) (by omega)))
    have := key (i - q) (by omega)
    rw [show q + (i - q) = i by omega] at this
    exact this.symm
  · have key : ∀ d, i + d ≤ q → (st (i + d)).2.get c = (st i).2.get c := by
      intro d
      induction d with
      | zero => intro _; rfl
      | succ d ih =>
        intro hd
        rw [← ih (by omega)]
        show (st (i + d + 1)).2.get c = _
        by_cases hk : isW ops (i + d)
        · have hne : i + d ≠ i := fun e => by
            rw [e] at hk
            obtain ⟨p, hp, -, h3⟩ := hk.loud
            rw [ho] at hp; simp only [Option.some.injEq] at hp; subst hp
            rw [hrd] at h3; cases h3
          refine one _ hk hne (fun hb => ?_) (fun hb => ?_)
          · have hS := hi.low (i + d) (by omega) hk
            obtain ⟨p, hp, -, -⟩ := hk.loud
            exact hn (before_closed hi.closed (i + d) i p hp (fun e he hb' => hi.closed (i + d) hS p hp e he hb') hb)
          · have := before_lt hs _ _ hb; omega
        · exact ht.same (i + d) (by omega) hk c (Nat.lt_of_lt_of_le hcd.2 (ht.next_mono (by omega) (by omega)))
    have := key (q - i) (by omega)
    rw [show i + (q - i) = q by omega] at this
    exact this

/-- One more operation, whichever may come. -/
theorem Inv.step (hc : CallOk P call) (hs : slotsOk ops = true) (ht : Tr P call n ops φ0.dom st) (ha : apartOk ops (st ops.size).1 = true) {Q : Exit → Act → World → Prop} {S : Nat → Prop} {φ : Phi} {q : Nat} {a : Act} {w : World} (hi : Inv n ops st φ0 w0 a0 S φ q a w) {i : Nat} {o : Oper}
    (ho : ops[i]? = some o) (hn : ¬ S i) (hr : ∀ e ∈ o.after.toList, Region.binds .any e = true → S e.on) :
    wpOp P ops Q i (fun a' w' => ∃ φ' q', Inv n ops st φ0 w0 a0 (fun j => j = i ∨ S j) φ' q' a' w') a w := by
  have hisz : i < ops.size := (Array.getElem?_eq_some_iff.1 ho).1
  have hreads := hi.reads hs ht ho hn hr
  have hclosed : Closed ops (fun j => j = i ∨ S j) := fun j hj p hp e he hb => by
    rcases hj with hj | hj
    · subst hj; rw [ho] at hp; simp only [Option.some.injEq] at hp; subst hp; exact .inr (hr e he hb)
    · exact .inr (hi.closed j hj p hp e he hb)
  have hnext : ∀ {x y : Nat}, x ≤ y → y ≤ ops.size → (st x).2.next ≤ (st y).2.next := fun h1 h2 => ht.next_mono h1 h2
  have still : ¬ isLoud ops i → (st (i + 1)).2 = (st i).2 → operA P call n ops o (st i).1 (st q).2 = some [((st (i + 1)).1, (st q).2)] →
      wpOp P ops Q i (fun a' w' => ∃ φ' q', Inv n ops st φ0 w0 a0 (fun j => j = i ∨ S j) φ' q' a' w') a w := by
    intro notloud hheap hop
    refine wpOp_one hc hi.post.rel hi.size ho hreads hop fun φ' w' v p1 p2 p3 => ?_
    obtain ⟨s1, s2, s3, s4⟩ := hi.slots hs ho hn p1.ext p2 p3 rfl
    refine ⟨φ', q, hclosed, hi.le, fun j h1 h2 => .inr (hi.low j h1 h2), fun h1 => ⟨(hi.here h1).1, fun h2 => ?_⟩, fun j h1 h2 h3 => ?_, hi.post.trans p1.toPost0, fun b hb j h1 h2 => ?_, fun j h1 h2 b h3 h4 => ?_, s1, s2, s3, s4⟩
    · rcases h2 with h2 | h2
      · exact notloud (h2 ▸ (hi.here h1).1.loud)
      · exact (hi.here h1).2 h2
    · rcases h3 with h3 | h3
      · exact notloud (h3 ▸ h2)
      · exact hi.high j h1 h2 h3
    · have hbd : φ.dom b := by
        rcases Classical.em (φ.dom b) with h3 | h3
        · exact h3
        · have h4 := (p1.news b hb h3).1
          have h5 := p1.rel.lt b hb
          omega
      exact hi.gap b hbd j h1 (fun h3 => h2 (.inr h3))
    · rcases h2 with h2 | h2
      · subst h2; rw [hheap] at h4; omega
      · exact p1.ext.dom b (hi.known j h1 h2 b h3 h4)
  cases hrd : readOp o.op with
  | true =>
    refine still (fun ⟨p, hp, _, hpr⟩ => ?_) (ht.read i o ho hrd).1 ((ht.read i o ho hrd).2 _ fun T y c f hop hy => hi.read_same hs ht ha ho hn hr hrd hop hy)
    rw [ho] at hp; simp only [Option.some.injEq] at hp; subst hp; rw [hrd] at hpr; cases hpr
  | false =>
  cases hq : quietOp o.op with
  | true =>
    refine still (fun ⟨p, hp, hpq, _⟩ => ?_) (ht.quiet i o ho hq).1 ((ht.quiet i o ho hq).2 _)
    rw [ho] at hp; simp only [Option.some.injEq] at hp; subst hp; rw [hq] at hpq; cases hpq
  | false =>
    have hloud : isLoud ops i := ⟨o, ho, hq, hrd⟩
    by_cases hW : isW ops i
    · -- it is the next that must be just there
      have hge : ¬ i < q := fun h => hn (hi.low i h hW)
      have heq : i = q := by
        rcases Nat.lt_or_ge q i with h | h
        · have hqs : q < ops.size := by omega
          obtain ⟨hqW, hqn⟩ := hi.here hqs
          rcases isW_spec hW hqW.loud (by omega) with hb | hb
          · exact (hqn (before_closed hi.closed i q o ho hr hb)).elim
          · have := before_lt hs _ _ hb; omega
        · omega
      subst heq
      refine wpOp_one hc hi.post.rel hi.size ho hreads (ht.fixed i o ho hW) fun φ' w' v p1 p2 p3 => ?_
      obtain ⟨s1, s2, s3, s4⟩ := hi.slots hs ho hn p1.ext p2 p3 rfl
      obtain ⟨q', k1, k2, k3, k4⟩ := next_W ops (ops.size - (i + 1)) (i + 1) (by omega)
      refine ⟨φ', q', hclosed, k2, fun j h1 h2 => ?_, fun h1 => ⟨k3 h1, fun h2 => ?_⟩, fun j h1 h2 h3 => ?_, ?_, fun b hb j h1 h2 => ?_, fun j h1 h2 b h3 h4 => ?_, s1, s2, s3, s4⟩
      · rcases Nat.lt_or_ge j i with h3 | h3
        · exact .inr (hi.low j h3 h2)
        · by_cases e : j = i
          · exact .inl e
          · exact (k4 j (by omega) h1 h2).elim
      · rcases h2 with h2 | h2
        · omega
        · exact hi.high q' (by omega) (k3 h1).loud h2
      · rcases h3 with h3 | h3
        · omega
        · exact hi.high j (by omega) h2 h3
      · refine Post0.later (hi.post.trans p1.toPost0) ?_ ?_
        · have := ht.eff_to (q' - (i + 1)) (i + 1) (by omega)
          rwa [show i + 1 + (q' - (i + 1)) = q' by omega] at this
        · have := ht.same_to (q' - (i + 1)) (i + 1) (by omega) (fun j h1 h2 => k4 j h1 (by omega))
          rwa [show i + 1 + (q' - (i + 1)) = q' by omega] at this
      · have hjn : j ≠ i := fun e => h2 (.inl e)
        by_cases hbd : φ.dom b
        · exact hi.gap b hbd j h1 (fun h3 => h2 (.inr h3))
        · have h3 := (p1.news b hb hbd).1
          have h4 := p1.rel.lt b hb
          rintro ⟨g1, g2⟩
          rcases Nat.lt_or_ge j i with h5 | h5
          · have := hnext (x := j + 1) (y := i) (by omega) (by omega); omega
          · have := hnext (x := i + 1) (y := j) (by omega) (by omega); omega
      · rcases h2 with h2 | h2
        · subst h2; exact p1.all b h3 h4
        · exact p1.ext.dom b (hi.known j h1 h2 b h3 h4)
    · -- it writes only what it made itself
      have hlt : i < q := by
        rcases Nat.lt_or_ge q ops.size with hqs | hqs
        · obtain ⟨hqW, hqn⟩ := hi.here hqs
          rcases isW_spec hqW hloud (fun e => hW (e ▸ hqW)) with hb | hb
          · exact before_lt hs _ _ hb
          · exact (hqn (before_closed hi.closed i q o ho hr hb)).elim
        · omega
      have hgapW : ∀ j, i ≤ j → j < q → ¬ isW ops j := fun j h1 h2 h3 => by
        have hne : j ≠ i := fun e => hW (e ▸ h3)
        have hSj := hi.low j h2 h3
        obtain ⟨p, hp, -, -⟩ := h3.loud
        rcases isW_spec h3 hloud hne with hb | hb
        · exact hn (before_closed hi.closed j i p hp (fun e he hbi => hi.closed j hSj p hp e he hbi) hb)
        · have := before_lt hs _ _ hb; omega
      obtain ⟨h1, hop, hh⟩ := ht.loose i o ho hq hrd hW
      have hle := hi.le
      have hdom : ∀ b, φ.dom b → φ0.dom b ∨ (st 0).2.next ≤ b := fun b hb => by
        by_cases h3 : φ0.dom b
        · exact .inl h3
        · exact .inr (hi.post.news b hb h3).1
      have hrel := ht.cut (Nat.le_of_lt hlt) hle hgapW hi.post.rel hdom
      have hvals := ht.vals i (by omega)
      refine wpOp_one hc hrel hi.size ho (fun t hm v hv => ?_) hop fun φ1 w' v p1 p2 p3 => ?_
      · obtain ⟨g1, g2⟩ := hreads t hm v hv
        have g3 : v.ok (φ.cut (st i).2.next).dom := V.ok_and v g2 (hvals t v hv)
        exact ⟨by rw [← conc_ext (Ext.cut φ _) v g3]; exact g1, g3⟩
      · have hnx : h1.next = (st (i + 1)).2.next := by rw [hh]
        have heff : Eff (st (i + 1)).2 (st q).2 := by
          have := ht.eff_to (q - (i + 1)) (i + 1) (by omega)
          rwa [show i + 1 + (q - (i + 1)) = q by omega] at this
        have hsame : ∀ b, b < (st (i + 1)).2.next → (st q).2.get b = (st (i + 1)).2.get b := by
          have := ht.same_to (q - (i + 1)) (i + 1) (by omega) (fun j h1 h2 => hgapW j (by omega) (by omega))
          rwa [show i + 1 + (q - (i + 1)) = q by omega] at this
        obtain ⟨q1, q2, q3⟩ := Post0.loose hi.post p1.toPost0 (fun b hb => by rw [hnx]; exact hi.gap b hb i hisz hn) (hnext (x := 0) (y := i) (by omega) (by omega))
          (by rw [heff.lim0, hh]) (by rw [hnx]; exact heff.next) (fun b hb => by rw [hsame b (by rw [← hnx]; exact hb), hh]; rfl)
        have hv3 : v.ok (φ.join φ1 (st i).2.next h1.next).dom := V.ok_mono q3.dom v p3
        obtain ⟨s1, s2, s3, s4⟩ := hi.slots hs ho hn q2 p2 hv3 (x := conc φ1 v) (conc_ext q3 v p3).symm
        refine ⟨φ.join φ1 (st i).2.next h1.next, q, hclosed, hle, fun j g1 g2 => .inr (hi.low j g1 g2), fun g1 => ⟨(hi.here g1).1, fun g2 => ?_⟩, fun j g1 g2 g3 => ?_, q1, fun b hb j g1 g2 => ?_, fun j g1 g2 b g3 g4 => ?_, s1, s2, s3, s4⟩
        · rcases g2 with g2 | g2
          · omega
          · exact (hi.here g1).2 g2
        · rcases g3 with g3 | g3
          · omega
          · exact hi.high j g1 g2 g3
        · have hjn : j ≠ i := fun e => g2 (.inl e)
          rcases hb with hb | ⟨hb1, hb2⟩
          · exact hi.gap b hb j g1 (fun h3 => g2 (.inr h3))
          · have h4 := p1.rel.lt b hb2
            rintro ⟨k1, k2⟩
            rcases Nat.lt_or_ge j i with h5 | h5
            · have := hnext (x := j + 1) (y := i) (by omega) (by omega); omega
            · have := hnext (x := i + 1) (y := j) (by omega) (by omega); omega
        · rcases g2 with g2 | g2
          · subst g2; exact .inr ⟨g3, p1.all b g3 (by rw [hnx]; exact g4)⟩
          · exact .inl (hi.known j g1 g2 b g3 g4)

end
end Go.Abs

/-
  A region whose order is open, as a whole.
-/
namespace Go.Abs
open Go.RowKit

section
variable {P : Program} {n : Nat} {call : FuncId → List V → Heap → Option Rets} {ops : Array Oper} {st : Nat → Env × Heap} {φ0 : Phi} {w0 : World} {a0 : Act}

theorem Inv.congr {S S' : Nat → Prop} (hSS : ∀ j, S j ↔ S' j) {φ : Phi} {q : Nat} {a : Act} {w : World} (hi : Inv n ops st φ0 w0 a0 S φ q a w) : Inv n ops st φ0 w0 a0 S' φ q a w := by
  have : S = S' := funext fun j => propext (hSS j)
  exact this ▸ hi

theorem getD_eq {listed : Array Bool} {i : Nat} (h : i < listed.size) : listed.getD i true = listed.getD i false := by
  simp [Array.getD_eq_getD_getElem?, Array.getElem?_eq_getElem h]

theorem ready_mem {listed : Array Bool} (hsz : listed.size = ops.size) {i : Nat} : i ∈ Region.ready .any ops listed ↔ ∃ o, ops[i]? = some o ∧ ¬ listed.getD i false = true ∧ ∀ e ∈ o.after.toList, Region.binds .any e = true → listed.getD e.on false = true := by
  unfold Region.ready
  rw [List.mem_filter, List.mem_range]
  constructor
  · rintro ⟨h1, h2⟩
    rw [Bool.and_eq_true, Array.getElem?_eq_getElem h1, getD_eq (by omega)] at h2
    refine ⟨ops[i], Array.getElem?_eq_getElem h1, by simpa using h2.1, fun e he hb => ?_⟩
    have h3 := h2.2
    simp only [Option.map_some, Option.getD_some, Array.all_eq_true_iff_forall_mem] at h3
    have h4 := h3 e (Array.mem_toList_iff.1 he)
    rw [hb] at h4
    simpa using h4
  · rintro ⟨o, ho, hn, hr⟩
    obtain ⟨h1, rfl⟩ := Array.getElem?_eq_some_iff.1 ho
    refine ⟨h1, ?_⟩
    rw [Bool.and_eq_true, ho, getD_eq (by omega)]
    refine ⟨by simpa using hn, ?_⟩
    simp only [Option.map_some, Option.getD_some, Array.all_eq_true_iff_forall_mem]
    intro e he
    cases hb : Region.binds .any e with
    | false => rfl
    | true => simpa using hr e (Array.mem_toList_iff.2 he) hb

theorem countP_less {p p' : Nat → Bool} (hp : ∀ x, p' x = true → p x = true) {x : Nat} (h1 : p x = true) (h2 : p' x = false) : ∀ (l : List Nat), x ∈ l → l.countP p' < l.countP p
  | [], h => by cases h
  | y :: l, h => by
    have hm : l.countP p' ≤ l.countP p := List.countP_mono_left (fun z _ hz => hp z hz)
    rcases List.mem_cons.1 h with e | h
    · subst e
      rw [List.countP_cons_of_pos h1, List.countP_cons_of_neg (by simp [h2])]
      omega
    · have ih := countP_less hp h1 h2 l h
      by_cases hy : p' y = true
      · rw [List.countP_cons_of_pos hy, List.countP_cons_of_pos (hp y hy)]; omega
      · rw [List.countP_cons_of_neg hy]
        by_cases hy2 : p y = true
        · rw [List.countP_cons_of_pos hy2]; omega
        · rw [List.countP_cons_of_neg hy2]; exact ih

theorem all_listed (hs : slotsOk ops = true) {listed : Array Bool} (hsz : listed.size = ops.size) (hr : Region.ready .any ops listed = []) : ∀ i, i < ops.size → listed.getD i false = true := by
  intro i
  induction i using Nat.strongRecOn with
  | _ i ih =>
    intro hi
    rcases Classical.em (listed.getD i false = true) with h | h
    · exact h
    · have ho : ops[i]? = some ops[i] := Array.getElem?_eq_getElem hi
      have : i ∈ Region.ready .any ops listed := (ready_mem hsz).2 ⟨_, ho, h, fun e he hb => by
        have := slots_edge hs ho he hb
        exact ih e.on this (by omega)⟩
      rw [hr] at this; cases this

theorem Inv.run (hc : CallOk P call) (hs : slotsOk ops = true) (ht : Tr P call n ops φ0.dom st) (ha : apartOk ops (st ops.size).1 = true) {Q : Exit → Act → World → Prop}
    (hQ : ∀ S φ q a w, (∀ i, i < ops.size → S i) → Inv n ops st φ0 w0 a0 S φ q a w → Q .normal a w) :
    ∀ (fuel : Nat) (listed : Array Bool) (a : Act) (w : World) (φ : Phi) (q : Nat), listed.size = ops.size → (List.range ops.size).countP (fun i => !listed.getD i false) ≤ fuel →
      Inv n ops st φ0 w0 a0 (fun j => listed.getD j false = true) φ q a w → wpAny P .any ops Q fuel listed a w := by
  intro fuel
  induction fuel with
  | zero =>
    intro listed a w φ q hsz hcnt hi
    have hall : ∀ i, i < ops.size → listed.getD i false = true := fun i hlt => by
      have h0 : (List.range ops.size).countP (fun i => !listed.getD i false) = 0 := by omega
      rw [List.countP_eq_zero] at h0
      have := h0 i (List.mem_range.2 hlt)
      simpa using this
    refine ⟨?_, hQ _ φ q a w hall hi⟩
    rw [List.eq_nil_iff_forall_not_mem]
    intro i hmem
    obtain ⟨o, ho, hn, -⟩ := (ready_mem hsz).1 hmem
    exact hn (hall i (Array.getElem?_eq_some_iff.1 ho).1)
  | succ fuel ih =>
    intro listed a w φ q hsz hcnt hi
    refine ⟨fun hr => hQ _ φ q a w (all_listed hs hsz hr) hi, fun i hmem => ?_⟩
    obtain ⟨o, ho, hn, hr⟩ := (ready_mem hsz).1 hmem
    have hlt := (Array.getElem?_eq_some_iff.1 ho).1
    refine wpOp_mono (fun a' w' ⟨φ', q', hi'⟩ => ?_) (hi.step hc hs ht ha (Q := Q) ho hn hr)
    have hget : ∀ j, (listed.setIfInBounds i true).getD j false = if j = i then true else listed.getD j false := fun j => by
      rw [Array.getD_eq_getD_getElem?, Array.getD_eq_getD_getElem?]
      by_cases e : j = i
      · subst e; rw [if_pos rfl, Array.getElem?_setIfInBounds_self_of_lt (by omega)]; rfl
      · rw [if_neg e, Array.getElem?_setIfInBounds_ne (by omega)]
    refine ih _ a' w' φ' q' (by simp [hsz]) ?_ (hi'.congr fun j => ?_)
    · have : (List.range ops.size).countP (fun j => !(listed.setIfInBounds i true).getD j false) < (List.range ops.size).countP (fun j => !listed.getD j false) := by
        refine countP_less (x := i) (fun j hj => ?_) (by simpa using hn) (by rw [hget]; simp) _ (List.mem_range.2 hlt)
        rw [hget] at hj
        by_cases e : j = i
        · simp [e] at hj
        · rw [if_neg e] at hj; exact hj
      omega
    · rw [hget]
      by_cases e : j = i
      · simp [e]
      · simp [e]

/-- A region whose order is open comes to what the evaluator says. -/
theorem open_wp (hc : CallOk P call) (hm : P.follows .mixedOrders = true) {φ : Phi} {h : Heap} {w : World} {env : Env} {a : Act} (hs : slotsOk ops = true) (hr : Rel φ h w) (hE : EnvRel φ n env a.tmps) {r : Env × Heap}
    (hl : openOpsA P call n ops (ops.toList.zip (planA ops)) env h = some r) (ha : apartOk ops r.1 = true) {id : Nat} {Q : Exit → Act → World → Prop}
    (hQ : ∀ a' w' φ', Post φ h w φ' r.2 w' → EnvRel φ' n r.1 a'.tmps → a'.defers = a.defers → Q .normal a' w') : (Code.region id ops true).wp P Q a w := by
  refine wp_region_any hm ?_
  have hd : Post φ h w φ h { w with drawn := w.drawn + 1 } := Post.draws hr rfl rfl rfl rfl
  obtain ⟨st, s0, s1, ht⟩ := openOpsA_tr hc hd.rel hE hl
  obtain ⟨q, k1, k2, k3, k4⟩ := next_W ops ops.size 0 (by omega)
  have h0 : (st 0).2 = h := by rw [s0]
  have e0 : (st 0).1 = env := by rw [s0]
  refine Inv.run hc hs ht (by rw [s1]; exact ha) (w0 := { w with drawn := w.drawn + 1 }) (a0 := a) (fun S φ' q' a' w' hall hi => ?_) ops.size (Array.replicate ops.size false) a _ φ q (by simp) ?_ ?_
  · have hq : q' = ops.size := by
      rcases Nat.lt_or_ge q' ops.size with h1 | h1
      · exact absurd (hall q' h1) (hi.here h1).2
      · exact Nat.le_antisymm hi.le h1
    subst hq
    have hp := hi.post
    rw [h0, s1] at hp
    refine hQ a' w' φ' (hd.trans ⟨hp, fun b h1 h2 => ?_⟩) ⟨hi.size, fun t v hv => ?_⟩ hi.defers
    · -- each new name is known: the ranges fill all
      have fill : ∀ k, k ≤ ops.size → ∀ b, (st 0).2.next ≤ b → b < (st k).2.next → φ'.dom b := by
        intro k
        induction k with
        | zero => intro _ b h1 h2; omega
        | succ k ih =>
          intro hk b h1 h2
          rcases Nat.lt_or_ge b (st k).2.next with h3 | h3
          · exact ih (by omega) b h1 h3
          · exact hi.known k (by omega) (hall k (by omega)) b h3 h2
      exact fill ops.size (Nat.le_refl _) b (by rw [h0]; exact h1) (by rw [s1]; exact h2)
    · rw [← s1] at hv
      by_cases hex : ∃ (j : Nat) (p : Oper), ops[j]? = some p ∧ p.dst = some t
      · obtain ⟨j, p, hpj, hpd⟩ := hex
        have hj := (Array.getElem?_eq_some_iff.1 hpj).1
        have := ht.env_kept t (ops.size - (j + 1)) (j + 1) (by omega) (fun k h1 _ o' ho' => (slots_slot hs hpj hpd ho' (by omega)).1)
        rw [show j + 1 + (ops.size - (j + 1)) = ops.size by omega] at this
        rw [this] at hv
        exact hi.got j p t v (hall j hj) hpj hpd hv
      · have := ht.env_kept t ops.size 0 (by omega) (fun k _ _ o' ho' he => hex ⟨k, o', ho', he⟩)
        rw [Nat.zero_add] at this
        rw [this] at hv
        exact hi.old t v (fun i o _ ho he => hex ⟨i, o, ho, he⟩) hv
  · have := List.countP_le_length (p := fun i => !(Array.replicate ops.size false).getD i false) (l := List.range ops.size)
    rwa [List.length_range] at this
  · have hno : ∀ j, ¬ (Array.replicate ops.size false).getD j false = true := fun j => by
      rw [Array.getD_eq_getD_getElem?, Array.getElem?_replicate]
      split <;> simp
    refine ⟨fun i hi => (hno i hi).elim, k2, fun i h1 h2 => (k4 i (by omega) h1 h2).elim, fun h1 => ⟨k3 h1, hno q⟩, fun i _ _ => hno i, ?_, fun b hb j h1 _ => ?_, fun j _ h1 => (hno j h1).elim, fun i o t v h1 => (hno i h1).elim, fun t v _ hv => ?_, hE.size, rfl⟩
    · rw [h0]
      refine (Post.refl hd.rel).toPost0.later ?_ ?_
      · have := ht.eff_to q 0 (by omega)
        rw [Nat.zero_add, h0] at this; exact this
      · have := ht.same_to q 0 (by omega) (fun j h1 h2 => k4 j h1 (by omega))
        rw [Nat.zero_add, h0] at this; exact this
    · have h2 := hr.lt b hb
      have h3 := ht.next_mono (i := 0) (j := j) (by omega) (by omega)
      rw [h0] at h3; omega
    · rw [e0] at hv
      exact hE.get t v hv

end
end Go.Abs
