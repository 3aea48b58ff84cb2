/-
  Calls: which function a call comes to; one operation, in its place.
-/
import Derived.Test.YtaliknnfbjehhaaDoorAbsStep11
import Derived.Tactics
set_option linter.all false
namespace Go.Abs
open Go.RowKit

section
variable {P : Program} {φ : Phi} {h : Heap} {w : World} {n : Nat} {env : Env} {a : Act}

theorem concL_append (φ : Phi) (x y : List V) : concL φ (x ++ y) = concL φ x ++ concL φ y := by rw [concL_map, concL_map, concL_map, List.map_append]
theorem okL_append {d : Nat → Prop} {x y : List V} (hx : okL d x) (hy : okL d y) : okL d (x ++ y) := okL_iff.2 fun v hv => by
  rcases List.mem_append.1 hv with h | h
  · exact okL_iff.1 hx v h
  · exact okL_iff.1 hy v h

theorem find_method {t : TypeId} {i : TypeInfo} {name : String} {m : Method} {f : FuncId} {b : Bool} {v : Value} (hi : P.info? t = some i) (hf : i.methods.find? (·.name == name) = some m) (hp : m.path.toList = []) (hm : m.func = some (f, b))
    (hu : ∃ d, P.underlying t = some d ∧ (b = true → ∃ e, d = .pointer e) ∧ (b = false → ∀ e, d ≠ .pointer e)) (k : Nat) : (method (k + 1) t v name).run P w = .ok (f, v) w := by
  obtain ⟨d, hd, h1, h2⟩ := hu
  cases b with
  | true =>
    obtain ⟨e, rfl⟩ := h1 rfl
    simp [method, typeInfo, hi, hf, hp, follow, hm, receiverAt, run_underlying hd, Place.get]
  | false =>
    have h3 := h2 rfl
    simp only [method, Sem.run_bind, typeInfo, run_program, Result.andThen_ok, hi, Sem.run_pure, hf, hp, follow, hm, receiverAt, run_underlying hd]
    cases d <;> first | rfl | (exact absurd rfl (h3 _))

theorem sValue_ok (hr : Rel φ h w) (hE : EnvRel φ n env a.tmps) {o : Oper} {f : Operand} {xs : Array Operand} {ts : Array TypeId} (ho : o.op = .call { callee := .value f, args := xs, argTypes := ts }) {s : Step} (hs : sValue P f xs env h = some s) :
    StepOk P φ h w ((execOp a.eval o).run P w) s := by
  unfold sValue at hs
  split at hs
  · rename_i fn first captured vs hf hvs
    obtain ⟨h1, h2⟩ := evalA_conc hE hf
    obtain ⟨e1, e2⟩ := evalsA_arr hE hvs
    have hop : execOp a.eval o = invoke (.fn fn (concL φ captured).toArray) ((concL φ first).toArray ++ (concL φ vs).toArray) := by
      simp only [execOp, ho, resolve, h1, conc, Deferred.ofValue, pure_bind, e1]
    rw [hop]
    unfold targetA at hs
    split at hs
    · rename_i g
      simp only [Option.some.injEq] at hs; subst hs
      rw [app_eq, app_eq]
      refine ⟨?_, okL_append (okL_append h2.1 e2) h2.2⟩
      simp only [invoke]
      rw [concL_append, concL_append]
      simp
    · rename_i t name
      rw [app_eq] at hs
      split at hs
      · rename_i recv rest happ
        have hok : okL φ.dom (recv :: rest) := by rw [← happ]; exact okL_append h2.1 e2
        have hargs : (concL φ first).toArray ++ (concL φ vs).toArray = (concL φ (recv :: rest)).toArray := by
          rw [← happ, concL_append]; simp
        rw [hargs]
        have key : ∀ (d : TypeDesc) (g : FuncId), P.underlying t = some d → (∀ ms, d ≠ .interface ms) → (∀ k, (method (k + 1) t (conc φ recv) name).run P w = .ok (g, conc φ recv) w) →
            (invoke (.fn (.methodOf t name) (concL φ captured).toArray) (concL φ (recv :: rest)).toArray).run P w = (callFunc g (concL φ (recv :: rest)).toArray).run P w := by
          intro d g hd hne hm
          have h0 : (concL φ (recv :: rest)).toArray[0]? = some (conc φ recv) := rfl
          have hx : (concL φ (recv :: rest)).toArray.extract 1 (concL φ (recv :: rest)).toArray.size = (concL φ rest).toArray := by simp [concL]
          have hfuel : ∃ k, P.types.size + Made.depth = k + 1 := ⟨P.types.size + 99, by simp [Made.depth]⟩
          obtain ⟨k, hk⟩ := hfuel
          simp only [invoke, h0, hx, Sem.run_bind, run_underlying hd, Result.andThen_ok]
          simp only [callMethod, Sem.run_bind, run_program, Result.andThen_ok, hk, hm k]
          congr 1
          simp [concL]
        split at hs
        · cases hs
        · rename_i e i hne hu hi
          split at hs
          · rename_i m hm
            split at hs
            · rename_i g hp hf
              simp only [Option.some.injEq] at hs; subst hs
              exact ⟨key _ g hu (by simp) (fun k => find_method hi hm hp hf ⟨_, hu, (fun _ => ⟨_, rfl⟩), (fun h => by cases h)⟩ k), hok⟩
            · cases hs
          · cases hs
        · rename_i d i hn1 hn2 hu hi
          split at hs
          · rename_i m hm
            split at hs
            · rename_i g hp hf
              simp only [Option.some.injEq] at hs; subst hs
              exact ⟨key d g hu (fun ms e => hn1 _ e) (fun k => find_method hi hm hp hf ⟨d, hu, (fun h => by cases h), fun _ e he => hn2 _ he⟩ k), hok⟩
            · cases hs
          · cases hs
        · cases hs
      · cases hs
    · cases hs
  · cases hs

/-- All operations. -/
theorem stepA_ok (hr : Rel φ h w) (hE : EnvRel φ n env a.tmps) {o : Oper} {s : Step} (hs : stepA P env h o = some s) : StepOk P φ h w ((execOp a.eval o).run P w) s := by
  unfold stepA stepOp at hs
  cases ho : o.op <;> rw [ho] at hs <;> simp only at hs
  case move x => exact sMove_ok hr hE (.inl ho) hs
  case assign x => exact sMove_ok hr hE (.inr ho) hs
  case pick c x y => exact sPick_ok hr hE ho hs
  case alloc t => exact sAlloc_ok hr ho hs
  case box t x => exact sBox_ok hr hE ho hs
  case build t ps => exact sBuild_ok hr hE ho hs
  case buildSlice t m ps => exact sBuildSlice_ok hr hE ho hs
  case load t x => exact sLoad_ok hr hE ho hs
  case store t x y => exact sStore_ok hr hE ho hs
  case nilCheck x => exact sNilCheck_ok hr hE ho hs
  case binOp op t x y u => exact sBinOp_ok hr hE ho hs
  case unOp op t x => exact sUnOp_ok hr hE ho hs
  case convert s d x => exact sConvert_ok hr hE ho hs
  case makeInterface t x => exact sMakeInterface_ok hr hE ho hs
  case makeFunc f x y => exact sMakeFunc_ok hr hE ho hs
  case makeMap t r => exact sMakeMap_ok hr ho hs
  case makeSlice t l c => exact sMakeSlice_ok hr hE ho hs
  case slice t x lo hi mx => exact sSlice_ok hr hE ho hs
  case fieldAddr s x f => exact sFieldAddr_ok hr hE ho hs
  case field t x f => exact sField_ok hr hE ho hs
  case indexAddr t x i => exact sIndexAddr_ok hr hE ho hs
  case index t x i => exact sIndex_ok hr hE ho hs
  case lookup t x i ok => exact sLookup_ok hr hE ho hs
  case mapUpdate t m k v => exact sMapUpdate_ok hr hE ho hs
  case mapEntry t m k => exact sMapEntry_ok hr hE ho hs
  case entryStore t m s v => exact sEntryStore_ok hr hE ho hs
  case range t x => exact sRange_ok hr hE ho hs
  case next it b => exact sNext_ok hr hE ho hs
  case entry x => exact sEntry_ok hr hE ho hs
  case extract t i => exact sExtract_ok hr hE ho hs
  case call c =>
    obtain ⟨callee, xs, ts⟩ := c
    cases callee with
    | builtin b => exact sBuiltin_ok hr hE ho hs
    | value f => exact sValue_ok hr hE ho hs
    | invoke r m => cases hs
  all_goals cases hs

/-! ### one operation in its place -/

theorem wantedA_run (hE : EnvRel φ n env a.tmps) {ops : Array Oper} {o : Oper} {b : Bool} (hw : wantedA ops env o = some b) : Region.wanted o (yielded ops a.tmps) = b := by
  unfold wantedA at hw
  unfold Region.wanted
  cases hg : o.guard with
  | none => rw [hg] at hw; simpa using hw
  | some g =>
    rw [hg] at hw
    obtain ⟨j, want⟩ := g
    simp only [guardA] at hw
    simp only [yielded]
    split at hw
    · rename_i q hq
      rw [hq]
      simp only [Option.bind_some]
      split at hw
      · rename_i d hd
        rw [hd]
        simp only [Option.bind_some]
        split at hw
        · rename_i c hc
          obtain ⟨h1, -⟩ := hE.get d _ hc
          rw [h1]
          simp only [Option.some.injEq] at hw; subst hw
          simp only [conc]
          cases c <;> cases want <;> rfl
        · rename_i v hne hv
          obtain ⟨h1, -⟩ := hE.get d _ hv
          rw [h1]
          simp only [Option.some.injEq] at hw; subst hw
          cases v with
          | bool c => exact (hne c rfl).elim
          | ptr x => cases x <;> rfl
          | slice x _ _ => cases x <;> rfl
          | map x => cases x <;> rfl
          | _ => rfl
        · cases hw
      · rename_i hd
        rw [hd]
        simp only [Option.some.injEq] at hw; subst hw
        rfl
    · rename_i hq
      rw [hq]
      simp only [Option.some.injEq] at hw; subst hw
      rfl

theorem putA_rel (hE : EnvRel φ n env a.tmps) {dst : Option Tmp} {v : V} {env' : Env} (hp : putA n env dst v = some env') (hv : v.ok φ.dom) : EnvRel φ n env' (a.put dst (conc φ v)).tmps := by
  unfold putA at hp
  cases dst with
  | none => simp only [Option.some.injEq] at hp; subst hp; exact hE
  | some d =>
    simp only at hp
    split at hp
    · rename_i hlt
      have hlt' : d < n := Nat.le_of_ble_eq_true hlt
      simp only [Option.some.injEq] at hp; subst hp
      refine ⟨by simp [Act.put, hE.size], fun t u hu => ?_⟩
      rw [PMap.get_set] at hu
      simp only [Act.put]
      by_cases e : t = d
      · subst e
        rw [if_pos rfl] at hu
        simp only [Option.some.injEq] at hu; subst hu
        exact ⟨by rw [Array.getElem?_setIfInBounds_self_of_lt (by rw [hE.size]; exact hlt')], hv⟩
      · rw [if_neg e] at hu
        obtain ⟨h1, h2⟩ := hE.get t u hu
        exact ⟨by rw [Array.getElem?_setIfInBounds_ne (by omega)]; exact h1, h2⟩
    · cases hp

theorem put_defers (a : Act) (dst : Option Tmp) (v : Value) : (a.put dst v).defers = a.defers := by cases dst <;> rfl

/-- What is asked of calls. -/
def CallOk (P : Program) (call : FuncId → List V → Heap → Option Rets) : Prop :=
  ∀ f args h rs, call f args h = some rs → ∀ φ w, Rel φ h w → okL φ.dom args →
    ((callFunc f (concL φ args).toArray).run P w = .ok (.enter f (concL φ args).toArray) w ∧
      Calls P f (concL φ args).toArray w fun e w' => ∃ v h' φ', (v, h') ∈ rs ∧ e = .returned (conc φ' v) ∧ Post φ h w φ' h' w' ∧ v.ok φ'.dom) ∨
    (∃ v φ' w' h', (v, h') ∈ rs ∧ (callFunc f (concL φ args).toArray).run P w = .ok (.value (conc φ' v)) w' ∧ Post φ h w φ' h' w' ∧ v.ok φ'.dom)

theorem bindA_cons {α β : Type} (f : α → Option (List β)) (x : α) (xs : List α) : bindA f (x :: xs) = (match f x, bindA f xs with | some ys, some zs => some (app ys zs) | _, _ => none) := rfl

theorem bindA_mem {α β : Type} {f : α → Option (List β)} : ∀ {l : List α} {r : List β}, bindA f l = some r → ∀ x ∈ l, ∃ ys, f x = some ys ∧ ∀ y ∈ ys, y ∈ r
  | [], r, _, x, hx => by cases hx
  | z :: l, r, h, x, hx => by
    rw [bindA_cons] at h
    split at h
    · rename_i ys zs h1 h2
      simp only [Option.some.injEq] at h; subst h
      rw [app_eq]
      rcases List.mem_cons.1 hx with e | hx
      · subst e; exact ⟨ys, h1, fun y hy => List.mem_append_left _ hy⟩
      · obtain ⟨us, h3, h4⟩ := bindA_mem h2 x hx
        exact ⟨us, h3, fun y hy => List.mem_append_right _ (h4 y hy)⟩
    · cases h

theorem putMany_mem {dst : Option Tmp} {l : List (V × Heap)} {r : List (Env × Heap)} (h : putMany n env dst l = some r) : ∀ p ∈ l, ∃ env', putA n env dst p.1 = some env' ∧ (env', p.2) ∈ r := by
  have one : ∀ (p : V × Heap) (r : List (Env × Heap)), putOne n env dst p.1 p.2 = some r → ∃ env', putA n env dst p.1 = some env' ∧ (env', p.2) ∈ r := by
    intro p r hp
    unfold putOne at hp
    split at hp
    · rename_i env' he
      simp only [Option.some.injEq] at hp; subst hp
      exact ⟨env', he, List.mem_singleton.2 rfl⟩
    · cases hp
  unfold putMany at h
  split at h
  · rename_i v hh
    intro p hp
    simp only [List.mem_singleton] at hp; subst hp
    exact one _ _ h
  · intro p hp
    obtain ⟨ys, h1, h2⟩ := bindA_mem h p hp
    obtain ⟨env', h3, h4⟩ := one p ys h1
    exact ⟨env', h3, h2 _ h4⟩

/-- One operation: whatever it may come to, 'K' holds of it. -/
theorem operA_wp {call : FuncId → List V → Heap → Option Rets} (hc : CallOk P call) (hr : Rel φ h w) (hE : EnvRel φ n env a.tmps) {ops : Array Oper} {o : Oper} {l : List (Env × Heap)} (hl : operA P call n ops o env h = some l)
    {K : Act → World → Prop} {Q : Exit → Act → World → Prop} (hK : ∀ p ∈ l, ∀ φ' w' v, Post φ h w φ' p.2 w' → putA n env o.dst v = some p.1 → v.ok φ'.dom → K (a.put o.dst (conc φ' v)) w') :
    if Region.wanted o (yielded ops a.tmps) then o.wp P a w K Q else K (a.put o.dst undef) w := by
  unfold operA at hl
  split at hl
  · cases hl
  · rename_i hw
    rw [wantedA_run hE hw]
    simp only [Bool.false_eq_true, if_false]
    unfold putOne at hl
    split at hl
    · rename_i env' he
      simp only [Option.some.injEq] at hl; subst hl
      exact hK _ (List.mem_singleton.2 rfl) φ w (.tuple []) (Post.refl hr) he trivial
    · cases hl
  · rename_i hw
    rw [wantedA_run hE hw]
    simp only [if_true]
    unfold runOper at hl
    split at hl
    · cases hl
    · rename_i s hs
      have hok := stepA_ok hr hE hs
      unfold Oper.wp
      cases s with
      | value v h' =>
        obtain ⟨φ', w', e1, e2, e3⟩ := hok
        rw [e1]
        simp only [Oper.upon]
        simp only [leaveA, putOne] at hl
        split at hl
        · rename_i env' he
          simp only [Option.some.injEq] at hl; subst hl
          exact hK _ (List.mem_singleton.2 rfl) φ' w' v e2 he e3
        · cases hl
      | skip h' =>
        obtain ⟨φ', w', e1, e2⟩ := hok
        rw [e1]
        simp only [Oper.upon]
        simp only [leaveA, putOne] at hl
        split at hl
        · rename_i env' he
          simp only [Option.some.injEq] at hl; subst hl
          exact hK _ (List.mem_singleton.2 rfl) φ' w' (.tuple []) e2 he trivial
        · cases hl
      | many rs =>
        obtain ⟨v, h', φ', w', e0, e1, e2, e3⟩ := hok
        rw [e1]
        simp only [Oper.upon]
        simp only [leaveA] at hl
        obtain ⟨env', he, hm⟩ := putMany_mem hl _ e0
        exact hK _ hm φ' w' v e2 he e3
      | call f args =>
        obtain ⟨e1, e2⟩ := hok
        rw [e1]
        simp only [leaveA] at hl
        split at hl
        · cases hl
        · rename_i rs hrs
          rcases hc f args h rs hrs φ w hr e2 with ⟨c1, c2⟩ | ⟨v, φ', w', h', e0, c1, c2, c3⟩
          · rw [c1]
            simp only [Oper.upon]
            refine c2.mono fun e w' ⟨v, h', φ', q0, q1, q2, q3⟩ => ?_
            subst q1
            obtain ⟨env', he, hm⟩ := putMany_mem hl _ q0
            exact hK _ hm φ' w' v q2 he q3
          · rw [c1]
            simp only [Oper.upon]
            obtain ⟨env', he, hm⟩ := putMany_mem hl _ e0
            exact hK _ hm φ' w' v c2 he c3

end
end Go.Abs
