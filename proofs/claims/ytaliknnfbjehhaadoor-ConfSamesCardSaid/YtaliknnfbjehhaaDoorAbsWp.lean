/-
  Walks by rewriting: regions as lists of operations whose slots are named, code by fuel.
-/
import Derived.Test.YtaliknnfbjehhaaDoorAbsGo
set_option linter.all false
namespace Go.Abs

/-- An operation: must it be just there; its slot; what it does; its guard's slot. -/
abbrev LOp := Bool × Option Tmp × Op × Option (Tmp × Bool)

noncomputable def putL (env : Env) (d : Option Tmp) (v : V) : Env :=
  match d with
  | none => env
  | some d => env.set d v

noncomputable def Heap.down (h : Heap) (l : Nat) : Heap := { h with lim := l }
noncomputable def Heap.up (h : Heap) : Heap := h.down h.next
noncomputable def Heap.on (b : Bool) (h : Heap) : Heap := match b with | true => h | false => h.up
noncomputable def Heap.back (b : Bool) (h' h : Heap) : Heap := match b with | true => h' | false => h'.down h.lim

/-- What a step leaves, if it leaves one thing. -/
def stepW (call : FuncId → List V → Heap → Option Rets) (h : Heap) (K : V → Heap → Prop) (s : Option Step) : Prop :=
  match s with
  | some (.value v h') => K v h'
  | some (.skip h') => K (.tuple []) h'
  | some (.call f args) => match call f args h with
    | some [(v, h')] => K v h'
    | _ => False
  | _ => False

section
variable (P : Program) (call : FuncId → List V → Heap → Option Rets)

def WP : List LOp → Env → Heap → (Env → Heap → Prop) → Prop
  | [], env, h, Q => Q env h
  | (b, d, op, none) :: l, env, h, Q => stepW call (h.on b) (fun v h' => WP l (putL env d v) (h'.back b h) Q) (stepOp P op env (h.on b))
  | (b, d, op, some (g, w)) :: l, env, h, Q => match env.get g with
    | some (.bool t) => match t == w with
      | true => stepW call (h.on b) (fun v h' => WP l (putL env d v) (h'.back b h) Q) (stepOp P op env (h.on b))
      | false => WP l (putL env d (.tuple [])) h Q
    | _ => False

/-- An operation's line. -/
def lop (n : Nat) (ops : Array Oper) (b : Bool) (o : Oper) : Option LOp :=
  match (match o.dst with | none => true | some d => Nat.blt d n) with
  | false => none
  | true => match o.guard with
    | none => some (b, o.dst, o.op, none)
    | some (j, w) => match ops[j]? with
      | some g => match g.dst with
        | some d => some (b, o.dst, o.op, some (d, w))
        | none => none
      | none => none

def lops (n : Nat) (ops : Array Oper) : List (Oper × Bool) → Option (List LOp)
  | [] => some []
  | (o, b) :: l => match lop n ops b o, lops n ops l with
    | some x, some xs => some (x :: xs)
    | _, _ => none

/-- Whatever the slots hold: stores and loads that stand in no order are none. -/
def apartFree (ops : Array Oper) : Bool :=
  let b := Region.before ops
  (List.range ops.size).all fun i => !writeAt ops i || (List.range ops.size).all fun j => (b.getD i 0).testBit j || (b.getD j 0).testBit i || (match ops[i]?, ops[j]? with
    | some o, some p => match o.op, p.op with
      | .store _ _ _, .load _ _ => false
      | _, _ => true
    | _, _ => true)

/-- A region's lines. -/
def lines (n : Nat) (c : Code) : Option (List LOp) :=
  match c with
  | .region _ ops false => lops n ops (ops.toList.map fun o => (o, true))
  | .region _ ops true => match slotsOk ops && apartFree ops with
    | true => lops n ops (ops.toList.zip (planA ops))
    | false => none
  | _ => none

variable {P call}

theorem putA_putL {n : Nat} {env : Env} {d : Option Tmp} (v : V) (h : (match d with | none => true | some d => Nat.blt d n) = true) : putA n env d v = some (putL env d v) := by
  cases d with
  | none => rfl
  | some d => simp only at h; simp only [putA, putL, h]

theorem leave_stepW {n : Nat} {env : Env} {h : Heap} {d : Option Tmp} {s : Option Step} {K : Env → Heap → Prop} (hd : (match d with | none => true | some d => Nat.blt d n) = true)
    (hK : stepW call h (fun v h' => K (putL env d v) h') s) : ∃ e' h', (match s with | none => none | some s => leaveA call n env h d s) = some [(e', h')] ∧ K e' h' := by
  unfold stepW at hK
  split at hK
  · exact ⟨_, _, by simp only [leaveA, putOne, putA_putL _ hd], hK⟩
  · exact ⟨_, _, by simp only [leaveA, putOne, putA_putL _ hd], hK⟩
  · split at hK
    · rename_i hc
      exact ⟨_, _, by simp only [leaveA, hc, putMany, putOne, putA_putL _ hd], hK⟩
    · exact hK.elim
  · exact hK.elim

/-- One line. -/
theorem operA_line {n : Nat} {ops : Array Oper} {o : Oper} {b : Bool} {x : LOp} (hx : lop n ops b o = some x) {env : Env} {h : Heap} {l : List LOp} {Q : Env → Heap → Prop} (hw : WP P call (x :: l) env h Q) :
    ∃ e' h', operA P call n ops o env (h.on b) = some [(e', h')] ∧ WP P call l e' (h'.back b h) Q := by
  unfold lop at hx
  split at hx
  · cases hx
  · rename_i hd
    split at hx
    · rename_i hg
      simp only [Option.some.injEq] at hx
      subst hx
      rw [WP] at hw
      obtain ⟨e', h', h1, h2⟩ := leave_stepW (n := n) (K := fun e h' => WP P call l e (h'.back b h) Q) hd hw
      refine ⟨e', h', ?_, h2⟩
      simp only [operA, wantedA, hg, runOper, stepA]
      exact h1
    · rename_i j w hg
      split at hx
      · rename_i g hj
        split at hx
        · rename_i dg hdg
          simp only [Option.some.injEq] at hx
          subst hx
          rw [WP] at hw
          split at hw
          · rename_i t ht
            split at hw
            · rename_i htw
              obtain ⟨e', h', h1, h2⟩ := leave_stepW (n := n) (K := fun e h' => WP P call l e (h'.back b h) Q) hd hw
              refine ⟨e', h', ?_, h2⟩
              simp only [operA, wantedA, hg, guardA, hj, hdg, ht, htw, runOper, stepA]
              exact h1
            · rename_i htw
              refine ⟨putL env o.dst (.tuple []), h.on b, ?_, ?_⟩
              · simp only [operA, wantedA, hg, guardA, hj, hdg, ht, htw, putOne, putA_putL _ hd]
              · have : (h.on b).back b h = h := by cases b <;> rfl
                rw [this]; exact hw
          · exact hw.elim
        · cases hx
      · cases hx

theorem opsA_lines {n : Nat} {ops : Array Oper} : ∀ (l : List Oper) (ls : List LOp), lops n ops (l.map fun o => (o, true)) = some ls → ∀ (env : Env) (h : Heap) (Q : Env → Heap → Prop), WP P call ls env h Q →
    ∃ e' h', opsA P call n ops l env h = some [(e', h')] ∧ Q e' h'
  | [], ls, hl, env, h, Q, hw => by
    simp only [List.map_nil, lops, Option.some.injEq] at hl
    subst hl
    exact ⟨env, h, rfl, hw⟩
  | o :: l, ls, hl, env, h, Q, hw => by
    simp only [List.map_cons, lops] at hl
    split at hl
    · rename_i x xs hx hxs
      simp only [Option.some.injEq] at hl
      subst hl
      obtain ⟨e1, h1, k1, k2⟩ := operA_line hx hw
      obtain ⟨e2, h2, k3, k4⟩ := opsA_lines l xs hxs e1 h1 Q k2
      refine ⟨e2, h2, ?_, k4⟩
      rw [opsA_cons, show operA P call n ops o env h = _ from k1]
      exact k3
    · cases hl

theorem openOps_lines {n : Nat} {ops : Array Oper} : ∀ (l : List (Oper × Bool)) (ls : List LOp), lops n ops l = some ls → ∀ (env : Env) (h : Heap) (Q : Env → Heap → Prop), WP P call ls env h Q →
    ∃ r, openOpsA P call n ops l env h = some r ∧ Q r.1 r.2
  | [], ls, hl, env, h, Q, hw => by
    simp only [lops, Option.some.injEq] at hl
    subst hl
    exact ⟨(env, h), rfl, hw⟩
  | (o, b) :: l, ls, hl, env, h, Q, hw => by
    simp only [lops] at hl
    split at hl
    · rename_i x xs hx hxs
      simp only [Option.some.injEq] at hl
      subst hl
      obtain ⟨e1, h1, k1, k2⟩ := operA_line hx hw
      obtain ⟨r, k3, k4⟩ := openOps_lines l xs hxs e1 _ Q k2
      refine ⟨r, ?_, k4⟩
      cases b with
      | true =>
        show (match operA P call n ops o env h with | some [(env', h')] => openOpsA P call n ops l env' h' | _ => none) = some r
        rw [show operA P call n ops o env h = _ from k1]
        exact k3
      | false =>
        show (match operA P call n ops o env { h with lim := h.next } with | some [(env', h')] => openOpsA P call n ops l env' { h' with lim := h.lim } | _ => none) = some r
        rw [show operA P call n ops o env { h with lim := h.next } = _ from k1]
        exact k3
    · cases hl

theorem apartFree_ok {ops : Array Oper} (h : apartFree ops = true) (env : Env) : apartOk ops env = true := by
  simp only [apartFree, List.all_eq_true, Bool.or_eq_true] at h
  simp only [apartOk, List.all_eq_true, Bool.or_eq_true]
  intro i hi
  rcases h i hi with h1 | h1
  · exact .inl h1
  · refine .inr fun j hj => ?_
    rcases h1 j hj with h2 | h2
    · exact .inl h2
    · refine .inr ?_
      unfold apartPair
      cases ho : ops[i]? with
      | none => rfl
      | some o => cases hp : ops[j]? with
        | none => rfl
        | some p =>
          rw [ho, hp] at h2
          simp only at h2 ⊢
          cases e1 : o.op <;> cases e2 : p.op <;> rw [e1, e2] at h2 <;> first | rfl | cases h2

/-- What a run comes to, if it is one thing. -/
def R (f : Option (List Res)) (Q : Out → Env → Heap → Prop) : Prop := ∃ o e h, f = some [(o, e, h)] ∧ Q o e h

theorem R_mono {f : Option (List Res)} {Q Q' : Out → Env → Heap → Prop} (h : R f Q) (hq : ∀ o e h, Q o e h → Q' o e h) : R f Q' := by
  obtain ⟨o, e, h', h1, h2⟩ := h
  exact ⟨o, e, h', h1, hq _ _ _ h2⟩

theorem R_region {k n : Nat} {c : Code} {ls : List LOp} (hl : lines n c = some ls) {env : Env} {h : Heap} {Q : Out → Env → Heap → Prop} (hw : WP P (callA P (execA P k)) ls env h (Q .normal)) : R (execA P (k + 1) n c env h) Q := by
  unfold lines at hl
  split at hl
  · rename_i id ops
    obtain ⟨e', h', h1, h2⟩ := opsA_lines _ _ hl _ _ _ hw
    refine ⟨.normal, e', h', ?_, h2⟩
    show cRegion P (callA P (execA P k)) ops n env h = _
    simp only [cRegion, h1]
    rfl
  · rename_i id ops
    split at hl
    · rename_i hs
      rw [Bool.and_eq_true] at hs
      obtain ⟨r, h1, h2⟩ := openOps_lines _ _ hl _ _ _ hw
      refine ⟨.normal, r.1, r.2, ?_, h2⟩
      show cOpen P (callA P (execA P k)) ops n env h = _
      simp only [cOpen, hs.1, h1, apartFree_ok hs.2]
      rfl
    · cases hl
  · cases hl

def thenR (P : Program) (k n : Nat) (b : Code) (Q : Out → Env → Heap → Prop) : Out → Env → Heap → Prop
  | .normal, e, h => R (execA P k n b e h) Q
  | o, e, h => Q o e h

theorem R_seq {k n : Nat} {a b : Code} {env : Env} {h : Heap} {Q : Out → Env → Heap → Prop} (hw : R (execA P k n a env h) (thenR P k n b Q)) : R (execA P (k + 1) n (.seq a b) env h) Q := by
  obtain ⟨o, e, h', h1, h2⟩ := hw
  cases o with
  | normal =>
    obtain ⟨o2, e2, h2', h3, h4⟩ := h2
    refine ⟨o2, e2, h2', ?_, h4⟩
    show cSeq (execA P k) a b n env h = _
    simp only [cSeq, h1, thensA, thenA]
    exact h3
  | _ =>
    refine ⟨_, e, h', ?_, h2⟩
    show cSeq (execA P k) a b n env h = _
    simp only [cSeq, h1, thensA, thenA]

theorem R_loop {k n : Nat} {c : Code} {env : Env} {h : Heap} {Q : Out → Env → Heap → Prop} (hw : R (execA P k n c env h) (thenR P k n (.loop c) Q)) : R (execA P (k + 1) n (.loop c) env h) Q := by
  obtain ⟨o, e, h', h1, h2⟩ := hw
  cases o with
  | normal =>
    obtain ⟨o2, e2, h2', h3, h4⟩ := h2
    refine ⟨o2, e2, h2', ?_, h4⟩
    show cLoop (execA P k) c n env h = _
    simp only [cLoop, h1, thensA, thenA]
    exact h3
  | _ =>
    refine ⟨_, e, h', ?_, h2⟩
    show cLoop (execA P k) c n env h = _
    simp only [cLoop, h1, thensA, thenA]

theorem R_cond {k n : Nat} {c : Operand} {a b : Code} {env : Env} {h : Heap} {Q : Out → Env → Heap → Prop} {t : Bool} (hc : evalA env c = some (.bool t)) (ha : t = true → R (execA P k n a env h) Q) (hb : t = false → R (execA P k n b env h) Q) :
    R (execA P (k + 1) n (.cond c a b) env h) Q := by
  cases t with
  | true =>
    obtain ⟨o, e, h', h1, h2⟩ := ha rfl
    refine ⟨o, e, h', ?_, h2⟩
    show cCond (execA P k) c a b n env h = _
    simp only [cCond, hc]; exact h1
  | false =>
    obtain ⟨o, e, h', h1, h2⟩ := hb rfl
    refine ⟨o, e, h', ?_, h2⟩
    show cCond (execA P k) c a b n env h = _
    simp only [cCond, hc]; exact h1

def blockR (id : Nat) (Q : Out → Env → Heap → Prop) : Out → Env → Heap → Prop
  | .exit i, e, h => Q (match Nat.beq i id with | true => .normal | false => .exit i) e h
  | o, e, h => Q o e h

theorem R_block {k n id : Nat} {c : Code} {env : Env} {h : Heap} {Q : Out → Env → Heap → Prop} (hw : R (execA P k n c env h) (blockR id Q)) : R (execA P (k + 1) n (.block id c) env h) Q := by
  obtain ⟨o, e, h', h1, h2⟩ := hw
  have hgo : execA P (k + 1) n (.block id c) env h = some [leaveBlock id (o, e, h')] := by
    show cBlock (execA P k) id c n env h = _
    simp only [cBlock, h1]
    rfl
  cases o with
  | exit i =>
    simp only [blockR] at h2
    simp only [leaveBlock] at hgo
    cases hi : Nat.beq i id with
    | true => rw [hi] at hgo h2; exact ⟨_, _, _, hgo, h2⟩
    | false => rw [hi] at hgo h2; exact ⟨_, _, _, hgo, h2⟩
  | normal => exact ⟨_, _, _, hgo, h2⟩
  | ret => exact ⟨_, _, _, hgo, h2⟩

theorem R_skip {k n : Nat} {env : Env} {h : Heap} {Q : Out → Env → Heap → Prop} (hw : Q .normal env h) : R (execA P (k + 1) n .skip env h) Q := ⟨.normal, env, h, rfl, hw⟩
theorem R_exit {k n id : Nat} {env : Env} {h : Heap} {Q : Out → Env → Heap → Prop} (hw : Q (.exit id) env h) : R (execA P (k + 1) n (.exit id) env h) Q := ⟨.exit id, env, h, rfl, hw⟩
theorem R_ret {k n : Nat} {env : Env} {h : Heap} {Q : Out → Env → Heap → Prop} (hw : Q .ret env h) : R (execA P (k + 1) n .ret env h) Q := ⟨.ret, env, h, rfl, hw⟩

/-- A call whose result is a slot. -/
theorem call_tmp {f : FuncId} {fn : Func} {body : Code} {t n k : Nat} (hf : P.funcs[f]? = some fn) (hb : fn.body = some body) (hn : fn.ntmps = n) (hr : fn.results.toList = [.tmp t]) {args : List V} (ha : Nat.ble (lenL args) n = true) {h : Heap} {K : V → Heap → Prop}
    (hw : R (execA P k n body (argsEnv args 0 .leaf) h) fun o e h' => (∀ i, o ≠ .exit i) ∧ ∃ v, e.get t = some v ∧ K v h') : ∃ v h', callA P (execA P k) f args h = some [(v, h')] ∧ K v h' := by
  obtain ⟨o, e, h', h1, h2, v, h3, h4⟩ := hw
  refine ⟨v, h', ?_, h4⟩
  have hres : resultA P e h' fn.results.toList = some [v] := by
    rw [hr]
    simp only [resultA, h3]
  simp only [callA, hf, hb, bodyA, hn, ha, h1, endsA]
  cases o with
  | exit i => exact (h2 i rfl).elim
  | normal => simp only [endA, hres, oneOrTuple]
  | ret => simp only [endA, hres, oneOrTuple]

end
end Go.Abs
