/-
  Which operations of a region come before which; an operation looks at the slots that it names alone.
-/
import Derived.Test.YtaliknnfbjehhaaDoorAbsCall
set_option linter.all false
namespace Go.Abs
open Go.RowKit

/-! ### the masks -/

def valB (acc : Array Nat) (o : Oper) : Nat := o.after.foldl (fun s e => if Region.binds .any e then s ||| 2 ^ e.on ||| acc.getD e.on 0 else s) 0

theorem valB_bit (acc : Array Nat) (j : Nat) : ∀ (es : List Edge) (s : Nat), (es.foldl (fun s e => if Region.binds .any e then s ||| 2 ^ e.on ||| acc.getD e.on 0 else s) s).testBit j = true →
    s.testBit j = true ∨ ∃ e ∈ es, Region.binds .any e = true ∧ (e.on = j ∨ (acc.getD e.on 0).testBit j = true)
  | [], s, h => .inl h
  | e :: es, s, h => by
    rw [List.foldl_cons] at h
    rcases valB_bit acc j es _ h with h1 | ⟨e', he, h2⟩
    · by_cases hb : Region.binds .any e = true
      · rw [if_pos hb, Nat.testBit_or, Nat.testBit_or, Bool.or_eq_true, Bool.or_eq_true] at h1
        rcases h1 with (h1 | h1) | h1
        · exact .inl h1
        · refine .inr ⟨e, List.mem_cons_self .., hb, .inl ?_⟩
          rw [Nat.testBit_two_pow] at h1
          exact of_decide_eq_true h1
        · exact .inr ⟨e, List.mem_cons_self .., hb, .inr h1⟩
      · rw [if_neg hb] at h1; exact .inl h1
    · exact .inr ⟨e', List.mem_cons_of_mem _ he, h2⟩

theorem pushB (l : List Oper) : ∀ (acc : Array Nat), (l.foldl (fun acc o => acc.push (valB acc o)) acc).size = acc.size + l.length ∧ ∀ k, k < acc.size → (l.foldl (fun acc o => acc.push (valB acc o)) acc)[k]? = acc[k]? := by
  induction l with
  | nil => intro acc; exact ⟨rfl, fun _ _ => rfl⟩
  | cons o l ih =>
    intro acc
    rw [List.foldl_cons]
    obtain ⟨h1, h2⟩ := ih (acc.push (valB acc o))
    refine ⟨by rw [h1, Array.size_push, List.length_cons]; omega, fun k hk => ?_⟩
    rw [h2 k (by rw [Array.size_push]; omega), Array.getElem?_push, if_neg (by omega)]

theorem before_eq (ops : Array Oper) : Region.before ops = ops.toList.foldl (fun acc o => acc.push (valB acc o)) #[] := by
  unfold Region.before
  rw [← Array.foldl_toList]; rfl

/-- A bit of a mask: an edge leads there, at once or further on. -/
theorem before_bit {ops : Array Oper} {i j : Nat} {o : Oper} (ho : ops[i]? = some o) (hb : ((Region.before ops).getD i 0).testBit j = true) :
    ∃ e ∈ o.after.toList, Region.binds .any e = true ∧ (e.on = j ∨ (e.on < i ∧ ((Region.before ops).getD e.on 0).testBit j = true)) := by
  have hi : i < ops.size := (Array.getElem?_eq_some_iff.1 ho).1
  have hsplit : ops.toList = ops.toList.take i ++ o :: ops.toList.drop (i + 1) := by
    have h1 : ops.toList[i]? = some o := by rw [Array.getElem?_toList]; exact ho
    have h2 : i < ops.toList.length := by simpa using hi
    rw [← List.take_append_drop i ops.toList]
    congr 1
    · simp
    · rw [List.take_append_drop]
      rw [List.drop_eq_getElem_cons h2]
      congr 1
      rw [List.getElem?_eq_getElem h2] at h1
      exact Option.some.inj h1
  obtain ⟨A, hA⟩ : ∃ A, A = (ops.toList.take i).foldl (fun acc o => acc.push (valB acc o)) #[] := ⟨_, rfl⟩
  have hAs : A.size = i := by
    rw [hA, (pushB _ #[]).1]; simp; omega
  have hB : Region.before ops = (ops.toList.drop (i + 1)).foldl (fun acc o => acc.push (valB acc o)) (A.push (valB A o)) := by
    rw [before_eq]
    conv => lhs; rw [hsplit]
    rw [List.foldl_append, List.foldl_cons, ← hA]
  have hBi : (Region.before ops).getD i 0 = valB A o := by
    have := (pushB (ops.toList.drop (i + 1)) (A.push (valB A o))).2 i (by rw [Array.size_push, hAs]; omega)
    rw [← hB, Array.getElem?_push, if_pos hAs.symm] at this
    simp only [Array.getD_eq_getD_getElem?, this, Option.getD_some]
  have hBk : ∀ k, k < i → (Region.before ops).getD k 0 = A.getD k 0 := fun k hk => by
    have := (pushB (ops.toList.drop (i + 1)) (A.push (valB A o))).2 k (by rw [Array.size_push, hAs]; omega)
    rw [← hB, Array.getElem?_push, if_neg (by omega)] at this
    simp only [Array.getD_eq_getD_getElem?, this]
  rw [hBi] at hb
  unfold valB at hb
  rw [← Array.foldl_toList] at hb
  rcases valB_bit A j _ 0 hb with h0 | ⟨e, he, h1, h2⟩
  · rw [Nat.zero_testBit] at h0; cases h0
  · refine ⟨e, he, h1, h2.imp id fun h2 => ?_⟩
    have hlt : e.on < i := by
      rcases Nat.lt_or_ge e.on i with h | h
      · exact h
      · have : A.getD e.on 0 = 0 := by rw [Array.getD_eq_getD_getElem?, Array.getElem?_eq_none (by omega)]; rfl
        rw [this, Nat.zero_testBit] at h2; cases h2
    exact ⟨hlt, by rw [hBk _ hlt]; exact h2⟩

section
variable {ops : Array Oper}

theorem slots_edge (hs : slotsOk ops = true) {i : Nat} {o : Oper} (ho : ops[i]? = some o) {e : Edge} (he : e ∈ o.after.toList) (hb : Region.binds .any e = true) : e.on < i := by
  have hi : i < ops.size := (Array.getElem?_eq_some_iff.1 ho).1
  unfold slotsOk at hs
  have h1 := List.all_eq_true.1 hs i (List.mem_range.2 hi)
  rw [ho] at h1
  simp only [Bool.and_eq_true] at h1
  have h2 := List.all_eq_true.1 h1.1 e he
  rw [hb] at h2
  simpa [Nat.blt, Nat.lt_iff_add_one_le] using h2

theorem slots_slot (hs : slotsOk ops = true) {i : Nat} {o : Oper} (ho : ops[i]? = some o) {t : Tmp} (hd : o.dst = some t) {j : Nat} {p : Oper} (hp : ops[j]? = some p) (hne : i ≠ j) :
    p.dst ≠ some t ∧ (t ∈ p.looksAt ops → ((Region.before ops).getD j 0).testBit i = true ∨ ((Region.before ops).getD i 0).testBit j = true) := by
  have hi : i < ops.size := (Array.getElem?_eq_some_iff.1 ho).1
  have hj : j < ops.size := (Array.getElem?_eq_some_iff.1 hp).1
  unfold slotsOk at hs
  have h1 := List.all_eq_true.1 hs i (List.mem_range.2 hi)
  rw [ho] at h1
  simp only [Bool.and_eq_true] at h1
  have h2 := h1.2
  rw [hd] at h2
  have h3 := List.all_eq_true.1 h2 j (List.mem_range.2 hj)
  rw [hp] at h3
  have hb : Nat.beq i j = false := by
    cases hc : Nat.beq i j with
    | false => rfl
    | true => exact absurd (Nat.eq_of_beq_eq_true hc) hne
  rw [hb, Bool.false_or, Bool.and_eq_true, Bool.not_eq_true', Bool.or_eq_true, Bool.or_eq_true, Bool.not_eq_true'] at h3
  refine ⟨fun e => ?_, fun ht => ?_⟩
  · rw [e] at h3; simp at h3
  · rcases h3.2 with (h | h) | h
    · rw [List.contains_eq_mem, decide_eq_false_iff_not] at h; exact absurd ht h
    · exact .inl h
    · exact .inr h

/-- Who stands in a mask stands before. -/
theorem before_lt (hs : slotsOk ops = true) : ∀ (i j : Nat), ((Region.before ops).getD i 0).testBit j = true → j < i := by
  intro i
  induction i using Nat.strongRecOn with
  | _ i ih =>
    intro j hb
    rcases Nat.lt_or_ge i ops.size with hi | hi
    · have ho : ops[i]? = some ops[i] := Array.getElem?_eq_getElem hi
      obtain ⟨e, he, h1, h2⟩ := before_bit ho hb
      have hlt := slots_edge hs ho he h1
      rcases h2 with h2 | ⟨h2, h3⟩
      · omega
      · have := ih e.on h2 j h3; omega
    · have hsz : (Region.before ops).size = ops.size := by rw [before_eq, (pushB _ #[]).1]; simp
      rw [Array.getD_eq_getD_getElem?, Array.getElem?_eq_none (by omega)] at hb
      simp at hb

/-- A set of operations that holds all that its edges lead to. -/
def Closed (ops : Array Oper) (S : Nat → Prop) : Prop := ∀ i, S i → ∀ o, ops[i]? = some o → ∀ e ∈ o.after.toList, Region.binds .any e = true → S e.on

theorem before_closed {S : Nat → Prop} (hc : Closed ops S) : ∀ (i j : Nat) (o : Oper), ops[i]? = some o → (∀ e ∈ o.after.toList, Region.binds .any e = true → S e.on) → ((Region.before ops).getD i 0).testBit j = true → S j := by
  intro i
  induction i using Nat.strongRecOn with
  | _ i ih =>
    intro j o ho hr hb
    obtain ⟨e, he, h1, h2⟩ := before_bit ho hb
    have hS := hr e he h1
    rcases h2 with h2 | ⟨h2, h3⟩
    · exact h2 ▸ hS
    · have hlt : e.on < ops.size := by have := (Array.getElem?_eq_some_iff.1 ho).1; omega
      exact ih e.on h2 j ops[e.on] (Array.getElem?_eq_getElem hlt) (fun e' he' hb' => hc e.on hS _ (Array.getElem?_eq_getElem hlt) e' he' hb') h3
end

/-! ### an operation looks at the slots that it names -/

section
variable {P : Program} {env env' : Env} {h : Heap}

theorem evalsA_congr : ∀ {l : List Operand}, (∀ x ∈ l, evalA env x = evalA env' x) → evalsA env l = evalsA env' l
  | [], _ => rfl
  | x :: l, hx => by
    rw [evalsA_cons, evalsA_cons, hx x (List.mem_cons_self ..), evalsA_congr fun y hy => hx y (List.mem_cons_of_mem _ hy)]

theorem evalParts_congr : ∀ {l : List (Nat × Operand)}, (∀ p ∈ l, evalA env p.2 = evalA env' p.2) → evalParts env l = evalParts env' l
  | [], _ => rfl
  | (i, x) :: l, hx => by
    rw [evalParts_cons, evalParts_cons, hx (i, x) (List.mem_cons_self ..), evalParts_congr fun y hy => hx y (List.mem_cons_of_mem _ hy)]

theorem evalOpt_congr {x : Option Operand} (hx : ∀ y ∈ x.toArray, evalA env y = evalA env' y) : evalOpt env x = evalOpt env' x := by
  cases x with
  | none => rfl
  | some x => simp only [evalOpt]; rw [hx x (by simp)]

theorem stepOp_congr {op : Op} (hx : ∀ x ∈ op.operands, evalA env x = evalA env' x) : stepOp P op env h = stepOp P op env' h := by
  cases op <;> simp only [Op.operands] at hx
  case move x => simp only [stepOp, sMove]; rw [hx x (by simp)]
  case assign x => simp only [stepOp, sMove]; rw [hx x (by simp)]
  case pick c x y => simp only [stepOp, sPick]; rw [hx c (by simp), hx x (by simp), hx y (by simp)]
  case alloc t => rfl
  case box t x => simp only [stepOp, sBox]; rw [hx x (by simp)]
  case build t ps => simp only [stepOp, sBuild]; rw [evalParts_congr fun p hp => hx p.2 (by simpa using ⟨p.1, by simpa using hp⟩)]
  case buildSlice t m ps => simp only [stepOp, sBuildSlice]; rw [evalParts_congr fun p hp => hx p.2 (by simpa using ⟨p.1, by simpa using hp⟩)]
  case load t x => simp only [stepOp, sLoad]; rw [hx x (by simp)]
  case store t x y => simp only [stepOp, sStore]; rw [hx x (by simp), hx y (by simp)]
  case nilCheck x => simp only [stepOp, sNilCheck]; rw [hx x (by simp)]
  case binOp op t x y u => simp only [stepOp, sBinOp]; rw [hx x (by simp), hx y (by simp)]
  case unOp op t x => simp only [stepOp, sUnOp]; rw [hx x (by simp)]
  case convert s d x => simp only [stepOp, sConvert]; rw [hx x (by simp)]
  case makeInterface t x => simp only [stepOp, sMakeInterface]; rw [hx x (by simp)]
  case makeFunc f x y => simp only [stepOp, sMakeFunc]; rw [evalsA_congr fun z hz => hx z (by have hz' := Array.mem_toList_iff.1 hz; simp [hz']), evalsA_congr fun z hz => hx z (by have hz' := Array.mem_toList_iff.1 hz; simp [hz'])]
  case makeMap t r => rfl
  case makeSlice t l c => simp only [stepOp, sMakeSlice]; rw [hx l (by simp), hx c (by simp)]
  case slice t x lo hi mx =>
    simp only [stepOp, sSlice]
    rw [hx x (by simp), evalOpt_congr (x := lo) fun y hy => hx y (by simp at hy ⊢; simp [hy]), evalOpt_congr (x := hi) fun y hy => hx y (by simp at hy ⊢; simp [hy]), evalOpt_congr (x := mx) fun y hy => hx y (by simp at hy ⊢; simp [hy])]
  case fieldAddr s x f => simp only [stepOp, sFieldAddr]; rw [hx x (by simp)]
  case field t x f => simp only [stepOp, sField]; rw [hx x (by simp)]
  case indexAddr t x i => simp only [stepOp, sIndexAddr]; rw [hx x (by simp), hx i (by simp)]
  case index t x i => simp only [stepOp, sIndex]; rw [hx x (by simp), hx i (by simp)]
  case lookup t x i ok => simp only [stepOp, sLookup]; rw [hx x (by simp), hx i (by simp)]
  case mapUpdate t m k v => simp only [stepOp, sMapUpdate]; rw [hx m (by simp), hx k (by simp), hx v (by simp)]
  case mapEntry t m k => simp only [stepOp, sMapEntry]; rw [hx m (by simp), hx k (by simp)]
  case entryStore t m s v => simp only [stepOp, sEntryStore]; rw [hx m (by simp), hx s (by simp), hx v (by simp)]
  case range t x => simp only [stepOp, sRange]; rw [hx x (by simp)]
  case next it b => simp only [stepOp, sNext]; rw [hx it (by simp)]
  case entry it => simp only [stepOp, sEntry]; rw [hx it (by simp)]
  case extract t i => simp only [stepOp, sExtract]; rw [hx t (by simp)]
  case call c =>
    obtain ⟨callee, xs, ts⟩ := c
    simp only [Call.operands] at hx
    cases callee with
    | builtin b => simp only [stepOp, sCall, sBuiltin]; rw [evalsA_congr fun z hz => hx z (by have hz' := Array.mem_toList_iff.1 hz; simp [hz'])]
    | value f => simp only [stepOp, sCall, sValue]; rw [hx f (by simp), evalsA_congr fun z hz => hx z (by have hz' := Array.mem_toList_iff.1 hz; simp [hz'])]
    | invoke r m => rfl
  all_goals rfl

/-- A quiet operation: it leaves the heap, and looks at none. -/
theorem quiet_step {op : Op} (hq : quietOp op = true) {s : Step} (hs : stepOp P op env h = some s) : ∃ v, s = .value v h ∧ ∀ h2, stepOp P op env h2 = some (.value v h2) := by
  have val : ∀ {x : Option V} {s : Step} {F : Heap → Option Step}, F h = some s → (∀ h2, F h2 = valueS x h2) → ∃ v, s = .value v h ∧ ∀ h2, F h2 = some (.value v h2) := by
    intro x s F h1 h2
    rw [h2 h] at h1
    obtain ⟨v, hv, rfl⟩ := valueS_some h1
    exact ⟨v, rfl, fun h3 => by rw [h2 h3, hv]; rfl⟩
  cases op <;> simp only [quietOp] at hq <;> first | (cases hq; done) | skip
  case move x => exact val (F := fun h => sMove x env h) hs (fun h2 => rfl)
  case assign x => exact val (F := fun h => sMove x env h) hs (fun h2 => rfl)
  case pick c x y =>
    simp only [stepOp, sPick] at hs ⊢
    cases hc : evalA env c with
    | none => rw [hc] at hs; cases hs
    | some u =>
      cases u with
      | bool b =>
        rw [hc] at hs
        cases b with
        | true => exact val (F := fun h => valueS (evalA env x) h) hs (fun h2 => rfl)
        | false => exact val (F := fun h => valueS (evalA env y) h) hs (fun h2 => rfl)
      | _ => rw [hc] at hs; cases hs
  case build t ps =>
    simp only [stepOp, sBuild] at hs ⊢
    cases hc : evalParts env ps.toList with
    | none => rw [hc] at hs; cases hs
    | some u => rw [hc] at hs; exact val (F := fun h => valueS (buildA P t u) h) hs (fun h2 => rfl)
  case nilCheck x =>
    simp only [stepOp, sNilCheck] at hs ⊢
    split at hs
    · rename_i b hb
      simp only [Option.some.injEq] at hs; subst hs
      exact ⟨_, rfl, fun h2 => rfl⟩
    · rename_i f u v hb
      simp only [Option.some.injEq] at hs; subst hs
      exact ⟨_, rfl, fun h2 => rfl⟩
    · cases hs
  case unOp op t x =>
    simp only [stepOp, sUnOp] at hs ⊢
    cases hc : evalA env x with
    | none => rw [hc] at hs; cases hs
    | some u => rw [hc] at hs; exact val (F := fun h => valueS (unOpA op u) h) hs (fun h2 => rfl)
  case makeInterface t x =>
    simp only [stepOp, sMakeInterface] at hs ⊢
    split at hs
    · cases hs
    · rename_i u d hne hu hd
      simp only [Option.some.injEq] at hs; subst hs
      exact ⟨_, rfl, fun h2 => rfl⟩
    · cases hs
  case makeFunc f x y =>
    simp only [stepOp, sMakeFunc] at hs ⊢
    split at hs
    · rename_i u v hu hv
      simp only [Option.some.injEq] at hs; subst hs
      exact ⟨_, rfl, fun h2 => rfl⟩
    · cases hs
  case fieldAddr s x f =>
    simp only [stepOp, sFieldAddr] at hs ⊢
    cases hc : evalA env x with
    | none => rw [hc] at hs; cases hs
    | some u => rw [hc] at hs; exact val (F := fun h => valueS (fieldAddrA P s u f) h) hs (fun h2 => rfl)
  case field t x f =>
    simp only [stepOp, sField] at hs ⊢
    cases hc : evalA env x with
    | none => rw [hc] at hs; cases hs
    | some u => rw [hc] at hs; exact val (F := fun h => valueS (fieldA P t u f) h) hs (fun h2 => rfl)
  case indexAddr t x i =>
    simp only [stepOp, sIndexAddr] at hs ⊢
    split at hs
    · rename_i u v hu hv
      exact val (F := fun h => valueS (indexAddrA P t u v) h) hs (fun h2 => rfl)
    · cases hs
  case index t x i =>
    simp only [stepOp, sIndex] at hs ⊢
    split at hs
    · rename_i u v hu hv
      exact val (F := fun h => valueS (indexA P t u v) h) hs (fun h2 => rfl)
    · cases hs
  case extract t i =>
    simp only [stepOp, sExtract] at hs ⊢
    split at hs
    · rename_i vs hv
      split at hs
      · rename_i v hvi
        simp only [Option.some.injEq] at hs; subst hs
        exact ⟨_, rfl, fun h2 => rfl⟩
      · cases hs
    · cases hs

theorem guardA_congr {ops : Array Oper} {j : Nat} {want : Bool} (hg : ∀ g d, ops[j]? = some g → g.dst = some d → env.get d = env'.get d) : guardA ops env j want = guardA ops env' j want := by
  unfold guardA
  split
  · rename_i g hgj
    split
    · rename_i d hd; rw [hg g d hgj hd]
    · rfl
  · rfl

theorem looks_congr {ops : Array Oper} {o : Oper} (hl : ∀ t ∈ o.looksAt ops, env.get t = env'.get t) : (∀ x ∈ o.op.operands, evalA env x = evalA env' x) ∧ wantedA ops env o = wantedA ops env' o := by
  constructor
  · intro x hx
    cases x with
    | tmp t =>
      exact hl t (List.mem_append_left _ (List.mem_filterMap.2 ⟨.tmp t, by simpa using hx, rfl⟩))
    | const c => rfl
    | global g => rfl
    | func f => rfl
  · unfold wantedA
    cases hg : o.guard with
    | none => rfl
    | some g =>
      refine guardA_congr fun q d hq hd => hl d (List.mem_append_right _ ?_)
      rw [hg]
      simp [hq, hd]

/-- An environment that holds just some slots of another one. -/
theorem env_restrict (env : Env) : ∀ (L : List Nat), ∃ e : Env, ∀ t, e.get t = if t ∈ L then env.get t else none
  | [] => ⟨.leaf, fun t => by simp [PMap.get_leaf]⟩
  | x :: L => by
    obtain ⟨e, he⟩ := env_restrict env L
    cases hx : env.get x with
    | none =>
      refine ⟨e, fun t => ?_⟩
      rw [he t]
      by_cases h1 : t = x
      · subst h1; simp [hx]
      · simp [h1]
    | some v =>
      refine ⟨e.set x v, fun t => ?_⟩
      rw [PMap.get_set, he t]
      by_cases h1 : t = x
      · subst h1; simp [hx]
      · simp [h1]

end
end Go.Abs
