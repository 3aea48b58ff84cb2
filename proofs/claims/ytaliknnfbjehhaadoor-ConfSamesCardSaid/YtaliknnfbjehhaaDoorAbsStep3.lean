/-
  Each operation's step is the model's: operators of two values.
-/
import Derived.Test.YtaliknnfbjehhaaDoorAbsStep2
import Derived.Laws.Strings
import Derived.Lib.SmallJoins
set_option linter.all false
namespace Go.Abs
open Go.RowKit

section
variable {P : Program} {φ : Phi} {h : Heap} {w : World} {n : Nat} {env : Env} {a : Act}

theorem eqI_beq (x y : Int) : eqI x y = (x == y) := by rw [eqI_eq, Bool.beq_eq_decide_eq]
theorem eqI_zero {y : Int} (h : eqI y 0 = false) : ¬ y = 0 := by rw [eqI_eq] at h; exact of_decide_eq_false h
theorem ltI_not (x y : Int) : (!ltI y x) = decide (x ≤ y) := by
  rw [ltI_eq, Bool.eq_iff_iff, Bool.not_eq_true', decide_eq_false_iff_not, decide_eq_true_eq]; omega

theorem intOpA_run {op : BinOp} {k : IntKind} {x y : Int} {t : TypeId} {v : V} (hs : opSort op ≠ 1) (hv : intOpA op k x y = some v) : (binOp op t (.int k x) (.int k y)).run P w = .ok (conc φ v) w ∧ ∀ d, v.ok d := by
  cases op with
  | add => simp only [intOpA, addI, Option.some.injEq] at hv; subst hv; rw [wrapI_eq]; exact ⟨by simp [binOp, Op.intArith, conc] <;> rfl, fun _ => trivial⟩
  | sub => simp only [intOpA, subI, Option.some.injEq] at hv; subst hv; rw [wrapI_eq]; exact ⟨by simp [binOp, Op.intArith, conc] <;> rfl, fun _ => trivial⟩
  | mul => simp only [intOpA, mulI, Option.some.injEq] at hv; subst hv; rw [wrapI_eq]; exact ⟨by simp [binOp, Op.intArith, conc] <;> rfl, fun _ => trivial⟩
  | quo =>
    simp only [intOpA, quoI] at hv
    split at hv
    · cases hv
    · rename_i hz
      simp only [Option.some.injEq] at hv; subst hv; rw [wrapI_eq]
      exact ⟨by simp [binOp, Op.intDiv, conc, eqI_zero hz], fun _ => trivial⟩
  | rem =>
    simp only [intOpA, remI] at hv
    split at hv
    · cases hv
    · rename_i hz
      simp only [Option.some.injEq] at hv; subst hv
      exact ⟨by simp [binOp, Op.intDiv, conc, eqI_zero hz], fun _ => trivial⟩
  | and => simp only [intOpA, andI, Option.some.injEq] at hv; subst hv; exact ⟨by simp [binOp, Op.intBits, conc], fun _ => trivial⟩
  | or => simp only [intOpA, orI, Option.some.injEq] at hv; subst hv; exact ⟨by simp [binOp, Op.intBits, conc], fun _ => trivial⟩
  | xor => simp only [intOpA, xorI, Option.some.injEq] at hv; subst hv; exact ⟨by simp [binOp, Op.intBits, conc], fun _ => trivial⟩
  | andNot => simp only [intOpA, andNotI, Option.some.injEq] at hv; subst hv; exact ⟨by simp [binOp, Op.intBits, conc], fun _ => trivial⟩
  | shl => exact absurd rfl hs
  | shr => exact absurd rfl hs
  | eql => simp only [intOpA, eqlI, Option.some.injEq] at hv; subst hv; rw [eqI_beq]; exact ⟨by simp [binOp, Op.intCmp, conc], fun _ => trivial⟩
  | neq => simp only [intOpA, neqI, Option.some.injEq] at hv; subst hv; rw [eqI_beq]; exact ⟨by simp [binOp, Op.intCmp, conc, bne], fun _ => trivial⟩
  | lss => simp only [intOpA, lssI, Option.some.injEq] at hv; subst hv; rw [ltI_eq]; exact ⟨by simp [binOp, Op.intCmp, conc], fun _ => trivial⟩
  | leq => simp only [intOpA, leqI, Option.some.injEq] at hv; subst hv; rw [ltI_not]; exact ⟨by simp [binOp, Op.intCmp, conc], fun _ => trivial⟩
  | gtr => simp only [intOpA, gtrI, Option.some.injEq] at hv; subst hv; rw [ltI_eq]; exact ⟨by simp [binOp, Op.intCmp, conc], fun _ => trivial⟩
  | geq => simp only [intOpA, geqI, Option.some.injEq] at hv; subst hv; rw [ltI_not]; exact ⟨by simp [binOp, Op.intCmp, conc], fun _ => trivial⟩

theorem shiftA_run {op : BinOp} {k k' : IntKind} {x y : Int} {t : TypeId} {v : V} (hv : shiftA op k x y = some v) : (binOp op t (.int k x) (.int k' y)).run P w = .ok (conc φ v) w ∧ ∀ d, v.ok d := by
  cases op <;> simp only [shiftA, noI] at hv <;> try cases hv
  · simp only [shlI] at hv
    split at hv
    · cases hv
    · rename_i hz
      simp only [Option.some.injEq] at hv; subst hv; rw [wrapI_eq]
      exact ⟨by simp [binOp, Op.shift, conc, ltI_false hz], fun _ => trivial⟩
  · simp only [shrI] at hv
    split at hv
    · cases hv
    · rename_i hz
      simp only [Option.some.injEq] at hv; subst hv
      exact ⟨by simp [binOp, Op.shift, conc, ltI_false hz], fun _ => trivial⟩

/-! strings -/

theorem u8_beq (x y : UInt8) : Nat.beq x.toNat y.toNat = (x == y) := by
  rw [Bool.eq_iff_iff, Nat.beq_eq, beq_iff_eq]; exact UInt8.toNat_inj
theorem u8_blt (x y : UInt8) : Nat.blt x.toNat y.toNat = decide (x < y) := by
  rw [Bool.eq_iff_iff, decide_eq_true_eq, Nat.blt, Nat.ble_eq]; exact UInt8.lt_iff_toNat_lt.symm

theorem eqS_beq : ∀ (x y : List UInt8), eqS x y = (x == y)
  | [], [] => rfl
  | [], _ :: _ => rfl
  | _ :: _, [] => rfl
  | x :: xs, y :: ys => by
    have e : eqS (x :: xs) (y :: ys) = Bool.rec false (eqS xs ys) (Nat.beq x.toNat y.toNat) := rfl
    rw [e, u8_beq, eqS_beq xs ys]
    show _ = ((x == y) && (xs == ys))
    cases x == y <;> rfl

theorem ltS_less : ∀ (x y : List UInt8), ltS x y = Op.bytesLess x y
  | [], [] => rfl
  | [], _ :: _ => rfl
  | _ :: _, [] => rfl
  | x :: xs, y :: ys => by
    have e : ltS (x :: xs) (y :: ys) = Bool.rec (Bool.rec false (ltS xs ys) (Nat.beq x.toNat y.toNat)) true (Nat.blt x.toNat y.toNat) := rfl
    rw [e, u8_beq, u8_blt, ltS_less xs ys, Op.bytesLess]
    cases decide (x < y) <;> cases x == y <;> rfl

theorem str_list (l : List UInt8) : (str l).toList = l := by rw [ByteArray.toList_eq]; rfl
theorem str_app (x y : List UInt8) : str x ++ str y = str (x ++ y) := by
  have h := Go.Joins.data_append (str x) (str y)
  generalize str x ++ str y = s at h
  obtain ⟨⟨l⟩⟩ := s
  have h' : l = x ++ y := h
  subst h'; rfl

theorem strOpA_run {op : BinOp} {x y : List UInt8} {t : TypeId} {v : V} (hv : strOpA op x y = some v) : (binOp op t (.string (str x)) (.string (str y))).run P w = .ok (conc φ v) w ∧ ∀ d, v.ok d := by
  have key : ∀ op, op ≠ .shl → op ≠ .shr → binOp op t (.string (str x)) (.string (str y)) = Op.stringOp op (str x) (str y) := fun op _ _ => by cases op <;> rfl
  cases op <;> simp only [strOpA, noS] at hv <;> try cases hv
  · simp only [addS] at hv
    split at hv
    · rename_i hle
      simp only [Option.some.injEq] at hv; subst hv
      have hle' := Nat.le_of_ble_eq_true hle
      rw [lenL_eq, lenL_eq] at hle'
      refine ⟨?_, fun _ => trivial⟩
      rw [key _ (by simp) (by simp), app_eq]
      have hn : ¬ (((str x).size + (str y).size : Nat) : Int) > IntKind.i64.max := by
        rw [str_size, str_size, IntKind.max_i64]
        have : Nat.add x.length y.length = x.length + y.length := rfl
        omega
      simp only [Op.stringOp, hn, if_false, str_app, conc, Sem.run_pure]
    · cases hv
  all_goals
    refine ⟨?_, fun _ => trivial⟩
    rw [key _ (by simp) (by simp)]
    simp only [Op.stringOp, str_list, Sem.run_pure, conc, eqS_beq, ltS_less]

/-! equality -/

theorem fieldsOf_eq {t : TypeId} {fs : Array Field} (h : P.underlying t = some (.struct fs)) : P.fieldsOf t = fs := by simp [Program.fieldsOf, h]

theorem beq_false_ne {s : String} (h : (s == "_") = false) : s ≠ "_" := by simpa using h

set_option maxHeartbeats 2000000 in
theorem equalA_run : ∀ d : Nat, (∀ t x y r, equalA P d t x y = some r → x.ok φ.dom → y.ok φ.dom → ∀ D, d ≤ D → (Op.equalIn D t (conc φ x) (conc φ y)).run P w = .ok r w) ∧
    (∀ fs xs ys r, equalFieldsA P d fs xs ys = some r → okL φ.dom xs → okL φ.dom ys → ∀ D, d ≤ D → (Op.eqFields D (concL φ xs).toArray (concL φ ys).toArray fs).run P w = .ok r w) := by
  intro d
  induction d with
  | zero => exact ⟨fun t x y r h => by simp [equalA] at h, fun fs xs ys r h => by cases fs <;> simp [equalFieldsA] at h⟩
  | succ d ih =>
    obtain ⟨ih1, ih2⟩ := ih
    constructor
    · intro t x y r h hx hy D hD
      obtain ⟨D, rfl⟩ : ∃ m, D = m + 1 := ⟨D - 1, by omega⟩
      have hD' : d ≤ D := by omega
      simp only [equalA] at h
      split at h
      case h_1 hu => simp only [Option.some.injEq] at h; subst h; simp [Op.equalIn, run_underlying hu, conc]
      case h_2 hu =>
        split at h
        · rename_i hk
          simp only [Option.some.injEq] at h; subst h
          have hk' := (eqK_eq _ _).1 hk
          subst hk'
          rw [eqI_beq]; simp [Op.equalIn, run_underlying hu, conc]
        · cases h
      case h_3 hu => simp only [Option.some.injEq] at h; subst h; simp [Op.equalIn, run_underlying hu, conc, beq_toListBytes, str_list, eqS_beq]
      case h_4 b hu =>
        simp only [Option.some.injEq] at h; subst h
        cases b <;> simp [Op.equalIn, run_underlying hu, conc]
      case h_5 hu => simp only [Option.some.injEq] at h; subst h; simp [Op.equalIn, run_underlying hu, conc]
      case h_6 e p q hu =>
        split at h
        · rename_i m hm
          split at h
          · rename_i hb
            simp only [Option.some.injEq] at h; subst h
            obtain ⟨i, h1, h2⟩ := size_info hm
            have hb' := Nat.eq_of_beq_eq_true hb
            have hne : ¬ i.size = 0 := by omega
            have e1 : ((φ.addr p).block == (φ.addr q).block) = true := by simp [Phi.addr, hb']
            have e2 : (φ.addr p == φ.addr q) = Nat.beq p.2 q.2 := by
              rw [Bool.eq_iff_iff, beq_iff_eq, Nat.beq_eq]
              simp [Phi.addr, hb']
            simp only [conc, Op.equalIn, Sem.run_bind, run_underlying hu, Result.andThen_ok, run_sizeOf h1, ne_eq, hne, not_false_eq_true, if_true, sameAddr, e1, e2]
            rfl
          · cases h
        · cases h
      case h_7 hu => simp only [Option.some.injEq] at h; subst h; simp [Op.equalIn, run_underlying hu, conc]
      case h_8 hu => simp only [Option.some.injEq] at h; subst h; simp [Op.equalIn, run_underlying hu, conc]
      case h_9 hu => simp only [Option.some.injEq] at h; subst h; simp [Op.equalIn, run_underlying hu, conc]
      case h_10 tx vx ty vy hu =>
        split at h
        · rename_i hb
          simp only [Option.some.injEq] at h; subst h
          have hne : ¬ tx = ty := fun e => by subst e; simp at hb
          simp [Op.equalIn, run_underlying hu, conc, hne]
        · rename_i hb
          have he := Nat.eq_of_beq_eq_true hb
          subst he
          split at h
          · rename_i i hi
            split at h
            · rename_i hc
              simp [Op.equalIn, run_underlying hu, conc, typeInfo, hi, hc]
              exact ih1 tx vx vy r h hx hy D hD'
            · cases h
          · cases h
      case h_11 fs xs ys hu =>
        split at h
        · cases h
        · rename_i hst
          simp only [conc]
          rw [run_equalIn_struct w D t _ _ (by rw [fieldsOf_eq hu]; exact hu) hst, fieldsOf_eq hu]
          exact ih2 _ xs ys r h hx hy D hD'
      case h_12 b _ _ hu =>
        simp only [Option.some.injEq] at h; subst h
        cases b <;> simp [Op.equalIn, run_underlying hu, conc]
      case h_13 hu => simp only [Option.some.injEq] at h; subst h; simp [Op.equalIn, run_underlying hu, conc]
      case h_14 hu => simp only [Option.some.injEq] at h; subst h; simp [Op.equalIn, run_underlying hu, conc]
      case h_15 hu => simp only [Option.some.injEq] at h; subst h; simp [Op.equalIn, run_underlying hu, conc]
      case h_16 b hu =>
        simp only [Option.some.injEq] at h; subst h
        cases b <;> simp [Op.equalIn, run_underlying hu, conc]
      case h_17 hu => simp only [Option.some.injEq] at h; subst h; simp [Op.equalIn, run_underlying hu, conc]
      case h_18 hu => simp only [Option.some.injEq] at h; subst h; simp [Op.equalIn, run_underlying hu, conc]
      case h_19 hu => simp only [Option.some.injEq] at h; subst h; simp [Op.equalIn, run_underlying hu, conc]
      case h_20 hu => simp only [Option.some.injEq] at h; subst h; simp [Op.equalIn, run_underlying hu, conc]
      case h_21 => cases h
    · intro fs xs ys r h hx hy D hD
      cases fs with
      | nil => simp only [equalFieldsA, Option.some.injEq] at h; subst h; simp [Op.eqFields]
      | cons f fs =>
        simp only [equalFieldsA] at h
        split at h
        · rename_i hn
          have hn' : f.name = "_" := by simpa using hn
          have := ih2 fs xs ys r h hx hy D (by omega)
          simp only [Op.eqFields, hn', ne_eq, not_true_eq_false, if_false]
          exact this
        · rename_i hn
          have hn' : f.name ≠ "_" := beq_false_ne hn
          split at h
          · rename_i u v hu hv
            obtain ⟨p1, o1⟩ := partA_run hu (φ := φ) hx w
            obtain ⟨p2, o2⟩ := partA_run hv (φ := φ) hy w
            split at h
            · rename_i he
              have q := ih1 f.type u v true he o1 o2 D (by omega)
              have := ih2 fs xs ys r h hx hy D (by omega)
              simp only [Op.eqFields, hn', ne_eq, not_false_eq_true, if_true, Sem.run_bind, p1, p2, Result.andThen_ok, q, Bool.not_true, Bool.false_eq_true, if_false]
              exact this
            · rename_i he
              simp only [Option.some.injEq] at h; subst h
              have q := ih1 f.type u v false he o1 o2 D (by omega)
              simp only [Op.eqFields, hn', ne_eq, not_false_eq_true, if_true, Sem.run_bind, p1, p2, Result.andThen_ok, q, Bool.not_false, Sem.run_pure]
            · cases h
          · cases h

theorem sort_conc {x y : V} (h : ¬ x.sort = y.sort) : ∀ op t u v, eqGuard op t u v (conc φ x) (conc φ y) = pure () := by
  intro op t u v
  cases op <;> try rfl
  all_goals
    cases x <;> try rfl
    all_goals first
      | (rename_i o; cases o <;> rfl)
      | (rename_i o _ _; cases o <;> rfl)
      | (cases y <;> first | rfl | (exact absurd rfl h) | (rename_i o; cases o <;> rfl) | (rename_i o _ _; cases o <;> rfl))

theorem eqGuardA_run {op : BinOp} {t : TypeId} {u v : Operand} {x y : V} (h : eqGuardA P op t u v x y = true) : (eqGuard op t u v (conc φ x) (conc φ y)).run P w = .ok () w := by
  unfold eqGuardA at h
  split at h
  · rename_i h0
    split at h
    · rename_i hb
      have he := Nat.eq_of_beq_eq_true hb
      cases x with
      | nilIface =>
        cases y with
        | nilIface =>
          simp only [eqGuardBoth, V.sort, Bool.or_eq_true] at h
          rcases h with h | h
          · cases u <;> simp only [isConstA] at h <;> first | (cases h; done) | (rw [show eqGuard op t (.const _) v (conc φ .nilIface) (conc φ .nilIface) = pure () from by cases op <;> rfl]; rfl)
          · cases v <;> simp only [isConstA] at h <;> first | (cases h; done) | (rw [show eqGuard op t u (.const _) (conc φ .nilIface) (conc φ .nilIface) = pure () from by cases op <;> cases u <;> rfl]; rfl)
        | agg cs => simp [V.sort] at he
        | _ => simp [V.sort] at he
      | agg cs =>
        cases y with
        | agg ds =>
          simp only [eqGuardBoth, V.sort, Bool.not_eq_true'] at h
          exact run_eqGuard_agg w op t u v _ _ h
        | nilIface => simp [V.sort] at he
        | _ => simp [V.sort] at he
      | ptr o => cases o <;> (rw [show ∀ z, eqGuard op t u v (conc φ (.ptr _)) z = pure () from fun z => by cases op <;> rfl]; rfl)
      | slice o _ _ => cases o <;> (rw [show ∀ z, eqGuard op t u v (conc φ (.slice _ _ _)) z = pure () from fun z => by cases op <;> rfl]; rfl)
      | map o => cases o <;> (rw [show ∀ z, eqGuard op t u v (conc φ (.map _)) z = pure () from fun z => by cases op <;> rfl]; rfl)
      | _ => cases op <;> rfl
    · rename_i hb
      have hne : ¬ x.sort = y.sort := fun e => by rw [e] at hb; simp at hb
      rw [sort_conc hne]; rfl
  · rename_i h0
    have : eqGuard op t u v (conc φ x) (conc φ y) = pure () := by
      cases op <;> first | rfl | (exact absurd rfl h0)
    rw [this]; rfl

theorem binEq_run {op : BinOp} {t : TypeId} {x y v : V} (hx : x.ok φ.dom) (hy : y.ok φ.dom) (hni : ∀ k m, x ≠ .int k m) (hns : ∀ l, x ≠ .str l) (hv : binEq P op t x y = some v) :
    (binOp op t (conc φ x) (conc φ y)).run P w = .ok (conc φ v) w ∧ ∀ d, v.ok d := by
  have key : ∀ (b : Bool), binOp .eql t (conc φ x) (conc φ y) = (do pure (.bool (← Op.equal t (conc φ x) (conc φ y)))) ∧ binOp .neq t (conc φ x) (conc φ y) = (do pure (.bool (!(← Op.equal t (conc φ x) (conc φ y))))) := by
    intro _
    cases x with
    | int k m => exact absurd rfl (hni k m)
    | str l => exact absurd rfl (hns l)
    | ptr o => cases o <;> exact ⟨rfl, rfl⟩
    | slice o _ _ => cases o <;> exact ⟨rfl, rfl⟩
    | map o => cases o <;> exact ⟨rfl, rfl⟩
    | _ => exact ⟨rfl, rfl⟩
  cases op <;> simp only [binEq] at hv <;> try cases hv
  · split at hv
    · rename_i r hr
      simp only [Option.some.injEq] at hv; subst hv
      have := (equalA_run (w := w) 100).1 t x y r hr hx hy 10000 (by omega)
      exact ⟨by rw [(key true).1]; simp [Op.equal, Op.maxDepth, this, conc], fun _ => trivial⟩
    · cases hv
  · split at hv
    · rename_i r hr
      simp only [Option.some.injEq] at hv; subst hv
      have := (equalA_run (w := w) 100).1 t x y r hr hx hy 10000 (by omega)
      exact ⟨by rw [(key true).2]; simp [Op.equal, Op.maxDepth, this, conc], fun _ => trivial⟩
    · cases hv

theorem valueS_some {x : Option V} {h : Heap} {s : Step} (hs : valueS x h = some s) : ∃ v, x = some v ∧ s = .value v h := by
  cases x with
  | none => cases hs
  | some v => exact ⟨v, rfl, by simpa [valueS] using hs.symm⟩
theorem heapS_some {x : Option (V × Heap)} {s : Step} (hs : heapS x = some s) : ∃ v h', x = some (v, h') ∧ s = .value v h' := by
  cases x with
  | none => cases hs
  | some p => exact ⟨p.1, p.2, rfl, by simpa [heapS] using hs.symm⟩
theorem skipS_some {x : Option Heap} {s : Step} (hs : skipS x = some s) : ∃ h', x = some h' ∧ s = .skip h' := by
  cases x with
  | none => cases hs
  | some p => exact ⟨p, rfl, by simpa [skipS] using hs.symm⟩

theorem sBinOp_ok (hr : Rel φ h w) (hE : EnvRel φ n env a.tmps) {o : Oper} {op : BinOp} {t u : TypeId} {x y : Operand} (ho : o.op = .binOp op t x y u) {s : Step} (hs : sBinOp P op t x y u env h = some s) :
    StepOk P φ h w ((execOp a.eval o).run P w) s := by
  unfold sBinOp at hs
  split at hs
  · rename_i p q hp hq
    obtain ⟨h1, h2⟩ := evalA_conc hE hp
    obtain ⟨h3, h4⟩ := evalA_conc hE hq
    split at hs
    · rename_i hg
      have hg' := eqGuardA_run (w := w) (φ := φ) hg
      obtain ⟨v, hv, rfl⟩ := valueS_some hs
      · have main : (binOp op t (conc φ p) (conc φ q)).run P w = .ok (conc φ v) w ∧ ∀ d, v.ok d := by
          unfold binOpA at hv
          split at hv
          · rename_i k m
            unfold binInt at hv
            split at hv
            · rename_i k' m'
              split at hv
              · exact shiftA_run hv
              · rename_i hsh
                split at hv
                · rename_i hk
                  have := (eqK_eq _ _).1 hk
                  subst this
                  exact intOpA_run (fun e => hsh e) hv
                · cases hv
            · cases hv
          · rename_i l
            unfold binStr at hv
            split at hv
            · exact strOpA_run hv
            · cases hv
          · rename_i n1 n2
            exact binEq_run h2 h4 (fun k m e => n1 k m e) (fun l e => n2 l e) hv
        refine stepOk_value hr ?_ (main.2 _)
        simp [execOp, ho, h1, h3, hg', main.1]
    · cases hs
  · cases hs

end
end Go.Abs
