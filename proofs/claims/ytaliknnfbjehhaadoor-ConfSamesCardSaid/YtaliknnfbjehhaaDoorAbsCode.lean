/-
  The evaluator is sound: what it answers, the model answers, whatever the tape.
-/
import Derived.Test.YtaliknnfbjehhaaDoorAbsWhole
import Derived.Laws.Externs
set_option linter.all false
namespace Go.Abs
open Go.RowKit

def Out.leave : Out → Exit
  | .normal => .normal
  | .exit id => .exit id
  | .ret => .ret

/-- What the rest of a loop asks, where its body stands before it. -/
def loopWp (P : Program) (c : Code) (Q : Exit → Act → World → Prop) (a : Act) (w : World) : Prop :=
  ∀ (b : Frame) (k : List Item) (cs : List Frame), ∃ e a' w', Q e a' w' ∧ Arrives P (lone (b.at a (.code c :: .inLoop c :: k)) cs w) b k cs e a' w'

theorem loopWp_loop {P : Program} {c : Code} {Q : Exit → Act → World → Prop} {a : Act} {w : World} (h : loopWp P c Q a w) : (Code.loop c).wp P Q a w := fun b k cs => by
  obtain ⟨e, a', w', hq, harr⟩ := h b k cs
  exact ⟨e, a', w', hq, .of_steps (.one step_loop) harr⟩

theorem loopWp_round {P : Program} {c : Code} {Q : Exit → Act → World → Prop} {a : Act} {w : World} (h : c.wp P (Exit.then (loopWp P c Q) Q) a w) : loopWp P c Q a w := fun b k cs => by
  obtain ⟨e, a₁, w₁, hq, harr⟩ := h b (.inLoop c :: k) cs
  cases e with
  | normal =>
    obtain ⟨e₂, a₂, w₂, hq₂, harr₂⟩ := hq b k cs
    exact ⟨e₂, a₂, w₂, hq₂, .of_steps (Steps.trans harr (.one step_inLoop)) harr₂⟩
  | exit id => exact ⟨_, a₁, w₁, hq, .pass (x := .inLoop c) rfl (fun _ _ => .inl (by simp)) harr⟩
  | goto l => exact ⟨_, a₁, w₁, hq, .pass (x := .inLoop c) rfl (fun _ _ => .inl (by simp)) harr⟩
  | ret => exact ⟨_, a₁, w₁, hq, .pass (x := .inLoop c) rfl (fun _ _ => .inl (by simp)) harr⟩
  | panic ch => exact ⟨_, a₁, w₁, hq, .pass (x := .inLoop c) rfl (fun _ _ => .inl (by simp)) harr⟩
  | outgrown => exact ⟨_, a₁, w₁, hq, .pass (x := .inLoop c) rfl (fun _ _ => .inl (by simp)) harr⟩

def codeWp (P : Program) (c : Code) (Q : Exit → Act → World → Prop) (a : Act) (w : World) : Prop :=
  match c with
  | .loop c => loopWp P c Q a w
  | c => c.wp P Q a w

theorem codeWp_wp {P : Program} {c : Code} {Q : Exit → Act → World → Prop} {a : Act} {w : World} (h : codeWp P c Q a w) : c.wp P Q a w := by
  cases c <;> first | exact h | exact loopWp_loop h

/-- What is asked of the program: its functions' names, and those that have no body. -/
structure Fit (P : Program) : Prop where
  mixed : P.follows .mixedOrders = true
  names : ∀ (f : FuncId) (fn : Func) (c : Code), P.funcs[f]? = some fn → fn.body = some c → (fn.name == "runtime.NumGoroutine") = false
  exts : ∀ (f : FuncId) (fn : Func), P.funcs[f]? = some fn → fn.body = none → ∀ (args : List V) (v : V), externA fn.name args = some v → ∀ (φ : Phi) (w : World), (callFunc f (concL φ args).toArray).run P w = .ok (.value (conc φ v)) w ∧ ∀ d, v.ok d

section
variable {P : Program}

/-- What is asked of an evaluator of code. -/
def ExecOk (P : Program) (rec : Nat → Code → Env → Heap → Option (List Res)) : Prop :=
  ∀ n c env h rs, rec n c env h = some rs → ∀ φ w a, Rel φ h w → EnvRel φ n env a.tmps → ∀ Q : Exit → Act → World → Prop,
    (∀ r ∈ rs, ∀ φ' a' w', Post φ h w φ' r.2.2 w' → EnvRel φ' n r.2.1 a'.tmps → a'.defers = a.defers → Q r.1.leave a' w') → codeWp P c Q a w

theorem mapL_eq {α β : Type} (f : α → β) (l : List α) : mapL f l = l.map f := by
  induction l with
  | nil => rfl
  | cons x xs ih => exact congrArg (f x :: ·) ih

theorem thensA_mem {next : Env → Heap → Option (List Res)} {rs out : List Res} (h : thensA next rs = some out) : ∀ r ∈ rs, ∃ ys, thenA next r = some ys ∧ ∀ y ∈ ys, y ∈ out := by
  unfold thensA at h
  split at h
  · rename_i r
    intro x hx
    rw [List.mem_singleton] at hx; subst hx
    exact ⟨out, h, fun y hy => hy⟩
  · exact bindA_mem h

theorem endsA_mem {fn : Func} {rs : List Res} {out : Rets} (h : endsA P fn rs = some out) : ∀ r ∈ rs, ∃ ys, endA P fn r = some ys ∧ ∀ y ∈ ys, y ∈ out := by
  unfold endsA at h
  split at h
  · rename_i r
    intro x hx
    rw [List.mem_singleton] at hx; subst hx
    exact ⟨out, h, fun y hy => hy⟩
  · exact bindA_mem h

theorem opsA_cons (call : FuncId → List V → Heap → Option Rets) (n : Nat) (ops : Array Oper) (o : Oper) (l : List Oper) (env : Env) (h : Heap) :
    opsA P call n ops (o :: l) env h = (match operA P call n ops o env h with | none => none | some [(env', h')] => opsA P call n ops l env' h' | some r => bindA (fun (env', h') => opsA P call n ops l env' h') r) := rfl

theorem opsA_wp {call : FuncId → List V → Heap → Option Rets} (hc : CallOk P call) {n : Nat} {ops : Array Oper} {Q : Exit → Act → World → Prop} : ∀ (l : List Oper) (env : Env) (h : Heap) (rs : List (Env × Heap)), opsA P call n ops l env h = some rs →
    ∀ (φ : Phi) (w : World) (a : Act), Rel φ h w → EnvRel φ n env a.tmps → (∀ p ∈ rs, ∀ φ' a' w', Post φ h w φ' p.2 w' → EnvRel φ' n p.1 a'.tmps → a'.defers = a.defers → Q .normal a' w') → wpList P ops Q l a w
  | [], env, h, rs, hl, φ, w, a, hr, hE, hQ => by
    have : rs = [(env, h)] := by simpa [opsA] using hl.symm
    subst this
    exact hQ _ (List.mem_singleton.2 rfl) φ a w (Post.refl hr) hE rfl
  | o :: l, env, h, rs, hl, φ, w, a, hr, hE, hQ => by
    rw [opsA_cons] at hl
    have main : ∀ r, operA P call n ops o env h = some r → (∀ p ∈ r, ∃ ys, opsA P call n ops l p.1 p.2 = some ys ∧ ∀ y ∈ ys, y ∈ rs) → wpList P ops Q (o :: l) a w := by
      intro r hop hmem
      refine wpList_step fun K hK => operA_wp hc hr hE hop fun p hp φ' w' v p1 p2 p3 => hK _ _ ?_
      obtain ⟨ys, h1, h2⟩ := hmem p hp
      refine opsA_wp hc l p.1 p.2 ys h1 φ' w' _ p1.rel (putA_rel (hE.ext p1.ext) p2 p3) fun y hy φ'' a' w'' q1 q2 q3 => ?_
      exact hQ y (h2 y hy) φ'' a' w'' (p1.trans q1) q2 (by rw [q3, put_defers])
    split at hl
    · cases hl
    · rename_i env' h' hop
      refine main _ hop fun p hp => ?_
      rw [List.mem_singleton] at hp; subst hp
      exact ⟨rs, hl, fun y hy => hy⟩
    · rename_i r _ hop
      exact main _ hop fun p hp => bindA_mem hl p hp

theorem resultA_cons (env : Env) (h : Heap) (r : ResultVar) (l : List ResultVar) : resultA P env h (r :: l) = (match r, resultA P env h l with
      | .tmp t, some vs => match env.get t with
        | some v => some (v :: vs)
        | none => none
      | .cell a t, some vs => match env.get a with
        | none => none
        | some p => match loadA P h t p with
          | some v => some (v :: vs)
          | none => none
      | _, none => none) := rfl

def resSem (tmps : Array Value) : ResultVar → Sem Value
  | .tmp t => pure (tmps.getD t undef)
  | .cell a t => do loadVar t (← asAddr (tmps.getD a undef))

theorem results_eq (fn : Func) (tmps : Array Value) : results fn tmps = (do
    let vs ← fn.results.mapM (resSem tmps)
    pure (if h : vs.size = 1 then vs[0] else .tuple vs)) := by
  unfold results
  congr 1

theorem resultA_run {φ : Phi} {h : Heap} {w : World} {n : Nat} {env : Env} {tmps : Array Value} (hr : Rel φ h w) (hE : EnvRel φ n env tmps) : ∀ {l : List ResultVar} {vs : List V}, resultA P env h l = some vs →
    (l.mapM (resSem tmps)).run P w = .ok (concL φ vs) w ∧ okL φ.dom vs
  | [], vs, hv => by
    have : vs = [] := by simpa [resultA] using hv.symm
    subst this; exact ⟨rfl, trivial⟩
  | r :: l, vs, hv => by
    rw [resultA_cons] at hv
    split at hv
    · rename_i t vs' hvs
      split at hv
      · rename_i v hg
        simp only [Option.some.injEq] at hv; subst hv
        obtain ⟨h1, h2⟩ := hE.get t v hg
        obtain ⟨h3, h4⟩ := resultA_run hr hE hvs
        refine ⟨?_, h2, h4⟩
        rw [List.mapM_cons]
        simp only [resSem, Sem.run_bind, Sem.run_pure, Result.andThen_ok, h3]
        simp [concL, h1]
      · cases hv
    · rename_i b t vs' hvs
      split at hv
      · cases hv
      · rename_i p hg
        split at hv
        · rename_i v hld
          simp only [Option.some.injEq] at hv; subst hv
          obtain ⟨h1, h2⟩ := hE.get b p hg
          obtain ⟨a0, rfl, h5, h6⟩ := loadA_run hr h2 hld
          obtain ⟨h3, h4⟩ := resultA_run hr hE hvs
          refine ⟨?_, h6, h4⟩
          rw [List.mapM_cons]
          have hg2 : tmps.getD b undef = .pointer (some (φ.addr a0)) := by simp [h1, conc]
          have hg3 : (asAddr (tmps.getD b undef)).run P w = .ok (φ.addr a0) w := by rw [hg2]; rfl
          simp only [resSem, Sem.run_bind, hg3, Sem.run_pure, Result.andThen_ok, h5, h3, concL]
        · cases hv
    · cases hv

theorem endA_run {fn : Func} {φ : Phi} {n : Nat} {r : Res} {ys : Rets} {a : Act} {w : World} (hr : Rel φ r.2.2 w) (hE : EnvRel φ n r.2.1 a.tmps) (h : endA P fn r = some ys) :
    (r.1 = .normal ∨ r.1 = .ret) ∧ ∃ v, ys = [(v, r.2.2)] ∧ (results fn a.tmps).run P w = .ok (conc φ v) w ∧ v.ok φ.dom := by
  obtain ⟨o, env, k⟩ := r
  unfold endA at h
  split at h
  · cases h
  · rename_i o' env' h' hne heq
    simp only [Prod.mk.injEq] at heq
    obtain ⟨rfl, rfl, rfl⟩ := heq
    split at h
    · rename_i vs hvs
      simp only [Option.some.injEq] at h; subst h
      refine ⟨?_, _, rfl, ?_, ?_⟩
      · cases o with
        | normal => exact .inl rfl
        | ret => exact .inr rfl
        | exit i => exact (hne i rfl).elim
      · obtain ⟨h1, h2⟩ := resultA_run (P := P) hr hE hvs
        rw [results_eq, Array.mapM_eq_mapM_toList]
        rw [Sem.run_bind, Sem.run_map, h1]
        simp only [Result.andThen_ok, Sem.run_pure]
        congr 1
        match vs with
        | [] => rfl
        | [v] => rfl
        | v :: u :: vs => simp [oneOrTuple, concL, conc]
      · obtain ⟨h1, h2⟩ := resultA_run (P := P) hr hE hvs
        unfold oneOrTuple
        split
        · exact h2.1
        · exact h2
    · cases h

theorem argsEnv_get : ∀ (l : List V) (i : Nat) (env : Env) (t : Nat), (argsEnv l i env).get t = if i ≤ t ∧ t < i + l.length then l[t - i]? else env.get t
  | [], i, env, t => by
    show env.get t = _
    rw [if_neg (by simp)]
  | v :: l, i, env, t => by
    show (argsEnv l (i + 1) (env.set i v)).get t = _
    rw [argsEnv_get l (i + 1) _ t, PMap.get_set]
    simp only [List.length_cons]
    by_cases h1 : t = i
    · subst h1
      rw [if_neg (by omega), if_pos rfl, if_pos (by omega), Nat.sub_self]; rfl
    · rw [if_neg h1]
      by_cases h2 : i + 1 ≤ t ∧ t < i + 1 + l.length
      · rw [if_pos h2, if_pos (by omega), show t - i = (t - (i + 1)) + 1 by omega, List.getElem?_cons_succ]
      · rw [if_neg h2, if_neg (by omega)]

theorem argsEnv_rel {φ : Phi} {args : List V} {n : Nat} (hn : args.length ≤ n) (hok : okL φ.dom args) :
    EnvRel φ n (argsEnv args 0 .leaf) ((concL φ args).toArray ++ Array.replicate (n - (concL φ args).toArray.size) undef) := by
  have hlen : (concL φ args).toArray.size = args.length := by simp [concL_map]
  refine ⟨by rw [Array.size_append, hlen, Array.size_replicate]; omega, fun t v hv => ?_⟩
  rw [argsEnv_get] at hv
  split at hv
  · rename_i hlt
    rw [Nat.sub_zero] at hv
    refine ⟨?_, okL_iff.1 hok v (List.mem_of_getElem? hv)⟩
    rw [Array.getElem?_append_left (by rw [hlen]; omega)]
    simp only [List.getElem?_toArray, concL_map, List.getElem?_map, hv, Option.map_some]
  · rw [PMap.get_leaf] at hv; cases hv

theorem callA_ok (hF : Fit P) {rec : Nat → Code → Env → Heap → Option (List Res)} (hx : ExecOk P rec) : CallOk P (callA P rec) := by
  intro f args h rs hrs φ w hr hok
  unfold callA at hrs
  split at hrs
  · cases hrs
  · rename_i fn hf
    split at hrs
    · rename_i hb
      split at hrs
      · rename_i v hv
        simp only [Option.some.injEq] at hrs; subst hrs
        obtain ⟨h1, h2⟩ := hF.exts f fn hf hb args v hv φ w
        exact .inr ⟨v, φ, w, h, List.mem_singleton.2 rfl, h1, Post.refl hr, h2 _⟩
      · cases hrs
    · rename_i body hb
      refine .inl ⟨?_, ?_⟩
      · have hname := hF.names f fn body hf hb
        simp only [callFunc, Sem.run_bind, run_program, Result.andThen_ok, hf, hname, hb, Option.isNone_some, Bool.false_eq_true, if_false, Sem.run_pure]
      · unfold bodyA at hrs
        split at hrs
        · cases hrs
        · rename_i hle
          rw [lenL_eq] at hle
          have hle := Nat.le_of_ble_eq_true hle
          split at hrs
          · cases hrs
          · rename_i rs' hbody
            refine calls_of_wp hf hb (codeWp_wp (hx _ _ _ _ _ hbody φ w _ hr (argsEnv_rel hle hok) _ fun r hr' φ' a' w' p1 p2 p3 => ?_))
            obtain ⟨ys, h1, h2⟩ := endsA_mem hrs r hr'
            obtain ⟨hout, v, rfl, h3, h4⟩ := endA_run p1.rel p2 h1
            have hgoal : a'.defers = [] ∧ ∃ u, (results fn a'.tmps).run P w' = .ok u w' ∧ ∃ v h' φ', (v, h') ∈ rs ∧ (Ending.returned u) = .returned (conc φ' v) ∧ Post φ h w φ' h' w' ∧ v.ok φ'.dom :=
              ⟨p3, _, h3, v, r.2.2, φ', h2 _ (List.mem_singleton.2 rfl), rfl, p1, h4⟩
            rcases hout with ho | ho <;> rw [ho] <;> exact hgoal

theorem codeA_ok (hF : Fit P) {rec : Nat → Code → Env → Heap → Option (List Res)} (hx : ExecOk P rec) {call : FuncId → List V → Heap → Option Rets} (hcall : CallOk P call) : ExecOk P (codeA P call rec) := by
  intro n c env h rs hrs φ w a hr hE Q hQ
  have lift : ∀ {φ1 : Phi} {h1 : Heap} {w1 : World} {a1 : Act}, Post φ h w φ1 h1 w1 → a1.defers = a.defers → (∀ r ∈ rs, ∀ φ' a' w', Post φ1 h1 w1 φ' r.2.2 w' → EnvRel φ' n r.2.1 a'.tmps → a'.defers = a1.defers → Q r.1.leave a' w') := fun p hd r hr' φ' a' w' q1 q2 q3 =>
    hQ r hr' φ' a' w' (p.trans q1) q2 (q3.trans hd)
  unfold codeA at hrs
  cases c <;> simp only at hrs
  case skip =>
    simp only [cDone, Option.some.injEq] at hrs; subst hrs
    exact wp_skip (hQ _ (List.mem_singleton.2 rfl) φ a w (Post.refl hr) hE rfl)
  case label l =>
    simp only [cDone, Option.some.injEq] at hrs; subst hrs
    exact wp_label (hQ _ (List.mem_singleton.2 rfl) φ a w (Post.refl hr) hE rfl)
  case exit id =>
    simp only [cDone, Option.some.injEq] at hrs; subst hrs
    exact wp_exit (hQ _ (List.mem_singleton.2 rfl) φ a w (Post.refl hr) hE rfl)
  case ret =>
    simp only [cDone, Option.some.injEq] at hrs; subst hrs
    exact wp_ret (hQ _ (List.mem_singleton.2 rfl) φ a w (Post.refl hr) hE rfl)
  case region id ops draw =>
    cases draw with
    | false =>
      simp only [cRegion] at hrs
      split at hrs
      · cases hrs
      · rename_i l hl
        simp only [Option.some.injEq] at hrs; subst hrs
        refine wp_region_list (opsA_wp hcall ops.toList env h l hl φ w a hr hE fun p hp φ' a' w' q1 q2 q3 => ?_)
        exact hQ (normalA p) (by rw [mapL_eq]; exact List.mem_map.2 ⟨p, hp, rfl⟩) φ' a' w' q1 q2 q3
    | true =>
      simp only [cOpen] at hrs
      split at hrs
      · cases hrs
      · rename_i hs
        split at hrs
        · cases hrs
        · rename_i p hl
          split at hrs
          · rename_i ha
            simp only [Option.some.injEq] at hrs; subst hrs
            exact open_wp hcall hF.mixed hs hr hE hl ha fun a' w' φ' q1 q2 q3 => hQ (normalA p) (List.mem_singleton.2 rfl) φ' a' w' q1 q2 q3
          · cases hrs
  case seq x y =>
    simp only [cSeq] at hrs
    split at hrs
    · cases hrs
    · rename_i rs1 h1
      refine wp_seq (codeWp_wp (hx _ _ _ _ _ h1 φ w a hr hE _ fun r hr' φ' a' w' p1 p2 p3 => ?_))
      obtain ⟨ys, g1, g2⟩ := thensA_mem hrs r hr'
      obtain ⟨o, env', h'⟩ := r
      cases o with
      | normal => exact codeWp_wp (hx _ _ _ _ _ g1 φ' w' a' p1.rel p2 Q fun y hy => lift p1 p3 y (g2 y hy))
      | exit i => simp only [thenA, Option.some.injEq] at g1; subst g1; exact hQ _ (g2 _ (List.mem_singleton.2 rfl)) φ' a' w' p1 p2 p3
      | ret => simp only [thenA, Option.some.injEq] at g1; subst g1; exact hQ _ (g2 _ (List.mem_singleton.2 rfl)) φ' a' w' p1 p2 p3
  case cond c x y =>
    simp only [cCond] at hrs
    split at hrs
    · rename_i t hc
      obtain ⟨e1, -⟩ := evalA_conc hE hc
      refine wp_cond (t := t) e1 ?_
      cases t with
      | true => exact codeWp_wp (hx _ _ _ _ _ hrs φ w a hr hE Q hQ)
      | false => exact codeWp_wp (hx _ _ _ _ _ hrs φ w a hr hE Q hQ)
    · cases hrs
  case block id c =>
    simp only [cBlock] at hrs
    split at hrs
    · cases hrs
    · rename_i rs1 h1
      simp only [Option.some.injEq] at hrs; subst hrs
      rw [mapL_eq] at hQ
      refine wp_block (codeWp_wp (hx _ _ _ _ _ h1 φ w a hr hE _ fun r hr' φ' a' w' p1 p2 p3 => ?_))
      have hq := hQ (leaveBlock id r) (List.mem_map.2 ⟨r, hr', rfl⟩) φ' a' w'
      obtain ⟨o, env', h'⟩ := r
      cases o with
      | normal => exact hq p1 p2 p3
      | ret => exact hq p1 p2 p3
      | exit i =>
        simp only [Out.leave, Exit.inBlock]
        simp only [leaveBlock] at hq
        by_cases hi : i = id
        · subst hi
          rw [if_pos rfl]
          rw [show Nat.beq i i = true from by simp] at hq
          exact hq p1 p2 p3
        · rw [if_neg hi]
          have : Nat.beq i id = false := by
            cases hc : Nat.beq i id with
            | false => rfl
            | true => exact absurd (Nat.eq_of_beq_eq_true hc) hi
          rw [this] at hq
          exact hq p1 p2 p3
  case loop c =>
    simp only [cLoop] at hrs
    split at hrs
    · cases hrs
    · rename_i rs1 h1
      refine loopWp_round (codeWp_wp (hx _ _ _ _ _ h1 φ w a hr hE _ fun r hr' φ' a' w' p1 p2 p3 => ?_))
      obtain ⟨ys, g1, g2⟩ := thensA_mem hrs r hr'
      obtain ⟨o, env', h'⟩ := r
      cases o with
      | normal => exact hx _ _ _ _ _ g1 φ' w' a' p1.rel p2 Q fun y hy => lift p1 p3 y (g2 y hy)
      | exit i => simp only [thenA, Option.some.injEq] at g1; subst g1; exact hQ _ (g2 _ (List.mem_singleton.2 rfl)) φ' a' w' p1 p2 p3
      | ret => simp only [thenA, Option.some.injEq] at g1; subst g1; exact hQ _ (g2 _ (List.mem_singleton.2 rfl)) φ' a' w' p1 p2 p3
  all_goals (simp only [cNone] at hrs; cases hrs)

theorem execA_ok (hF : Fit P) : ∀ k, ExecOk P (execA P k)
  | 0 => fun n c env h rs hrs => by cases hrs
  | k + 1 => codeA_ok hF (execA_ok hF k) (callA_ok hF (execA_ok hF k))

/-- What is asked of a call's answer. -/
def CallOkAt (P : Program) (f : FuncId) (args : List V) (h : Heap) (rs : Rets) : Prop :=
  ∀ φ w, Rel φ h w → okL φ.dom args →
    ((callFunc f (concL φ args).toArray).run P w = .ok (.enter f (concL φ args).toArray) w ∧
      Calls P f (concL φ args).toArray w fun e w' => ∃ v h' φ', (v, h') ∈ rs ∧ e = .returned (conc φ' v) ∧ Post φ h w φ' h' w' ∧ v.ok φ'.dom) ∨
    (∃ v φ' w' h', (v, h') ∈ rs ∧ (callFunc f (concL φ args).toArray).run P w = .ok (.value (conc φ' v)) w' ∧ Post φ h w φ' h' w' ∧ v.ok φ'.dom)

/-- Answers that are known ahead. -/
def HookOk (P : Program) (hook : FuncId → Option (List V → Heap → Option Rets)) : Prop :=
  ∀ f g, hook f = some g → ∀ args h rs, g args h = some rs → CallOkAt P f args h rs

theorem callH_ok (hF : Fit P) {hook : FuncId → Option (List V → Heap → Option Rets)} (hh : HookOk P hook) {rec : Nat → Code → Env → Heap → Option (List Res)} (hx : ExecOk P rec) : CallOk P (callH P hook rec) := by
  intro f args h rs hrs
  cases hg : hook f with
  | none =>
    have e : callH P hook rec f args h = callA P rec f args h := by simp only [callH, hg]
    exact callA_ok hF hx f args h rs (e.symm.trans hrs)
  | some g =>
    have e : callH P hook rec f args h = g args h := by simp only [callH, hg]
    exact hh f g hg args h rs (e.symm.trans hrs)

theorem execH_ok (hF : Fit P) {hook : FuncId → Option (List V → Heap → Option Rets)} (hh : HookOk P hook) : ∀ k, ExecOk P (execH P hook k)
  | 0 => fun n c env h rs hrs => by cases hrs
  | k + 1 => codeA_ok hF (execH_ok hF hh k) (callH_ok hF hh (execH_ok hF hh k))

/-- Calls: what the evaluator answers, the model answers. -/
theorem call_ok (hF : Fit P) (k : Nat) : CallOk P (callA P (execA P k)) := callA_ok hF (execA_ok hF k)

end
end Go.Abs
