/-
  Each operation's step is the model's: the builtins, and all operations together.
-/
import Derived.Test.YtaliknnfbjehhaaDoorAbsStep10
set_option linter.all false
namespace Go.Abs
open Go.RowKit

section
variable {P : Program} {φ : Phi} {h : Heap} {w : World} {n : Nat} {env : Env} {a : Act}

theorem lenOp_ok (hr : Rel φ h w) {t : TypeId} {x v : V} (hx : x.ok φ.dom) {ts : Array TypeId} {ty : TypeId} {args : Array Value} (ht0 : ts[0]? = some t) (ha0 : args[0]? = some (conc φ x)) (hp : lenOpA P h t x = some v) :
    (Builtin.len_ ts ty args).run P w = .ok (conc φ v) w ∧ v.ok φ.dom := by
  unfold lenOpA at hp
  split at hp
  · rename_i l hu
    simp only [Option.some.injEq] at hp; subst hp
    rw [lenL_eq]
    exact ⟨by simp [Builtin.len_, ht0, ha0, run_underlying hu, conc, str_size, goInt], trivial⟩
  · rename_i m e hu
    simp only [Option.some.injEq] at hp; subst hp
    refine ⟨?_, trivial⟩
    simp only [Builtin.len_, ht0, ha0, Sem.run_bind, run_underlying hu, Result.andThen_ok, conc, goInt, Sem.run_pure]
  · rename_i e b m c hu
    simp only [Option.some.injEq] at hp; subst hp
    refine ⟨?_, trivial⟩
    cases b <;> simp [Builtin.len_, ht0, ha0, run_underlying hu, conc, goInt]
  · rename_i e b o m e' hu
    simp only [Option.some.injEq] at hp; subst hp
    exact ⟨by simp [Builtin.len_, ht0, ha0, run_underlying hu, conc, goInt], trivial⟩
  · rename_i e b hu
    simp only [Option.some.injEq] at hp; subst hp
    exact ⟨by simp [Builtin.len_, ht0, ha0, run_underlying hu, conc, goInt], trivial⟩
  · rename_i k e hu
    simp only [Option.some.injEq] at hp; subst hp
    exact ⟨by simp [Builtin.len_, ht0, ha0, run_underlying hu, conc, goInt], trivial⟩
  · rename_i k e r hu
    split at hp
    · rename_i es clock hg
      simp only [Option.some.injEq] at hp; subst hp
      obtain ⟨E, e1, e2, e3, e4⟩ := mapBlk (P := P) hr hx hg
      have hsz : E.size = es.length := by
        have := congrArg List.length e2
        rwa [Array.length_toList, List.length_map] at this
      rw [lenL_eq]
      exact ⟨by simp [Builtin.len_, ht0, ha0, run_underlying hu, conc, goInt, e4, hsz], trivial⟩
    · cases hp
  · cases hp

theorem copyA_ok (hr : Rel φ h w) {t : TypeId} {x y v : V} {h' : Heap} (hx : x.ok φ.dom) (hy : y.ok φ.dom) {ts : Array TypeId} {ty : TypeId} {args : Array Value} (ht0 : ts[0]? = some t) (ha0 : args[0]? = some (conc φ x))
    (ha1 : args[1]? = some (conc φ y)) (hp : copyA P h t x y = some (v, h')) : ∃ w', (Builtin.copy_ ts ty args).run P w = .ok (conc φ v) w' ∧ Post φ h w φ h' w' ∧ v.ok φ.dom := by
  unfold copyA at hp
  split at hp
  · rename_i elem m he hn
    have hu := elem_under he
    have hln := lenA_run (P := P) (w := w) (φ := φ) hn
    split at hp
    · rename_i size hsz
      obtain ⟨inf, g1, g2⟩ := size_info hsz
      subst g2
      split at hp
      · rename_i base len cap
        split at hp
        · rename_i cs hf
          obtain ⟨f1, f2⟩ := firstA_run (P := P) hr hy hf
          split at hp
          · simp only [Option.some.injEq, Prod.mk.injEq] at hp
            obtain ⟨rfl, rfl⟩ := hp
            refine ⟨w, ?_, Post.refl hr, trivial⟩
            simp [Builtin.copy_, ht0, ha0, ha1, run_underlying hu, conc, hln, run_sizeOf g1, f1, goInt]
          · cases hp
          · rename_i ad
            simp only [Option.some.injEq, Prod.mk.injEq] at hp
            obtain ⟨rfl, rfl⟩ := hp
            refine ⟨w, ?_, Post.refl hr, trivial⟩
            simp [Builtin.copy_, ht0, ha0, ha1, run_underlying hu, conc, hln, run_sizeOf g1, f1, goInt, concL, storeCells]
          · rename_i ad hne
            split at hp
            · rename_i h1 hs
              simp only [Option.some.injEq, Prod.mk.injEq] at hp
              obtain ⟨rfl, rfl⟩ := hp
              obtain ⟨w', s1, s2⟩ := store_post P hr hx f2 hs
              refine ⟨w', ?_, s2, trivial⟩
              simp [Builtin.copy_, ht0, ha0, ha1, run_underlying hu, conc, hln, run_sizeOf g1, f1, goInt, s1]
            · cases hp
        · cases hp
      · rename_i b off len e
        split at hp
        · rename_i hf
          obtain ⟨f1, f2⟩ := firstA_run (P := P) hr hy hf
          simp only [Option.some.injEq, Prod.mk.injEq] at hp
          obtain ⟨rfl, rfl⟩ := hp
          refine ⟨w, ?_, Post.refl hr, trivial⟩
          simp [Builtin.copy_, ht0, ha0, ha1, run_underlying hu, conc, hln, run_sizeOf g1, f1, goInt, concL, storeCells]
        · rename_i cs hne hf
          obtain ⟨f1, f2⟩ := firstA_run (P := P) hr hy hf
          split at hp
          · rename_i h1 hs
            simp only [Option.some.injEq, Prod.mk.injEq] at hp
            obtain ⟨rfl, rfl⟩ := hp
            obtain ⟨w', s1, s2⟩ := store_post P hr (a := (b, off)) hx f2 hs
            refine ⟨w', ?_, s2, trivial⟩
            simp [Builtin.copy_, ht0, ha0, ha1, run_underlying hu, conc, hln, run_sizeOf g1, f1, goInt, s1]
          · cases hp
        · cases hp
      · cases hp
    · cases hp
  · cases hp

theorem zero_cells {u : Value} {z : V} (hc : ∀ φ, conc φ z = u) (m : Nat) : (Builtin.zeroCells u.cells m).toList = concL φ (timesA z.cells m) := by
  have hx : u.cells.toList = concL φ z.cells := by rw [← hc φ]; exact cells_conc φ z
  have hs : u.cells.size = z.cells.length := size_of_toList hx
  rcases Nat.eq_zero_or_pos z.cells.length with h0 | h0
  · have e1 : timesA z.cells m = [] := List.eq_nil_of_length_eq_zero (by rw [timesA_length, h0, Nat.mul_zero])
    rw [e1]
    have : (Builtin.zeroCells u.cells m).size = 0 := by rw [size_zeroCells, hs, h0, Nat.mul_zero]
    exact List.eq_nil_of_length_eq_zero (by rw [Array.length_toList, this])
  · have := made_eq (φ := φ) hx h0 m
    unfold Builtin.zeroCells
    rw [hs]
    rw [hs] at this
    rw [this]

theorem clearA_ok (hr : Rel φ h w) {t : TypeId} {x : V} {h' : Heap} (hx : x.ok φ.dom) {ts : Array TypeId} {ty : TypeId} {args : Array Value} (ht0 : ts[0]? = some t) (ha0 : args[0]? = some (conc φ x))
    (hp : clearA P h t x = some h') : ∃ w', (Builtin.clear_ ts ty args).run P w = .ok (.tuple #[]) w' ∧ Post φ h w φ h' w' := by
  unfold clearA at hp
  split at hp
  · rename_i e m c hu
    simp only [Option.some.injEq] at hp; subst hp
    refine ⟨w, ?_, Post.refl hr⟩
    simp [Builtin.clear_, ht0, ha0, run_underlying hu, conc]
  · rename_i e ad c hu
    simp only [Option.some.injEq] at hp; subst hp
    refine ⟨w, ?_, Post.refl hr⟩
    simp [Builtin.clear_, ht0, ha0, run_underlying hu, conc]
  · rename_i e b o es hu
    simp only [Option.some.injEq] at hp; subst hp
    refine ⟨w, ?_, Post.refl hr⟩
    simp [Builtin.clear_, ht0, ha0, run_underlying hu, conc]
  · rename_i e ad m c hne hu
    split at hp
    · rename_i z hz
      obtain ⟨i, u, g1, g2, g3, g4⟩ := info_of_zero hz
      obtain ⟨w', s1, s2⟩ := store_post P hr hx (timesA_ok (cells_ok (g4 _)) m) hp
      refine ⟨w', ?_, s2⟩
      rw [← zero_cells g3] at s1
      have hm : ¬ m = 0 := fun e => by subst e; exact hne rfl
      cases m with
      | zero => exact absurd rfl hm
      | succ m => simp [Builtin.clear_, ht0, ha0, run_underlying hu, conc, zeroValue, typeInfo, g1, g2, s1]
    · cases hp
  · rename_i e b o m es hne hu
    split at hp
    · rename_i z hz
      obtain ⟨i, u, g1, g2, g3, g4⟩ := info_of_zero hz
      obtain ⟨w', s1, s2⟩ := store_post P hr (a := (b, o)) hx (timesA_ok (cells_ok (g4 _)) m) hp
      refine ⟨w', ?_, s2⟩
      rw [← zero_cells g3] at s1
      have hm : ¬ m = 0 := fun e => by subst e; exact hne rfl
      cases m with
      | zero => exact absurd rfl hm
      | succ m => simp [Builtin.clear_, ht0, ha0, run_underlying hu, conc, zeroValue, typeInfo, g1, g2, s1]
    · cases hp
  · cases hp

theorem dropAt_erase : ∀ (es : List (V × V × Nat)) (i : Nat), dropAt i es = es.eraseIdx i
  | [], i => by simp [dropAt]
  | e :: es, 0 => rfl
  | e :: es, i + 1 => by simp [dropAt, dropAt_erase es i]

theorem eraseIdx_mapL {α β : Type} (f : α → β) : ∀ (l : List α) (i : Nat), (l.map f).eraseIdx i = (l.eraseIdx i).map f
  | [], i => by simp
  | _ :: _, 0 => rfl
  | x :: l, i + 1 => by simp [eraseIdx_mapL f l i]

theorem deleteA_ok (hr : Rel φ h w) {t : TypeId} {m k : V} {h' : Heap} (hm : m.ok φ.dom) {ts : Array TypeId} {ty : TypeId} {args : Array Value} (ht0 : ts[0]? = some t) (ha0 : args[0]? = some (conc φ m))
    (ha1 : args[1]? = some (conc φ k)) (hp : deleteA P h t m k = some h') : ∃ w', (Builtin.delete_ ts ty args).run P w = .ok (.tuple #[]) w' ∧ Post φ h w φ h' w' := by
  unfold deleteA at hp
  split at hp
  · rename_i key elem r hu
    split at hp
    · rename_i kd es clock hkd hg hlim
      have hlim' := Nat.le_of_ble_eq_true hlim
      obtain ⟨E, e1, e2, e3, e4⟩ := mapBlk (P := P) hr hm hg
      have hlv : live h r := ⟨_, hg, by simp⟩
      have hsz := hr.size r hm
      split at hp
      · rename_i j u b hpk hf
        simp only [Option.some.injEq] at hp; subst hp
        refine ⟨setObjW w (φ.blk r) (.map (E.eraseIdxIfInBounds j) clock), ?_, Post.setObj hr hm hlim' hlv ?_⟩
        · have hfk := run_findKey (P := P) (w := w) (φ := φ) hkd e2 hf
          simp only [Builtin.delete_, ht0, ha0, ha1, Sem.run_bind, run_underlying hu, Result.andThen_ok, conc, e4, run_checkKey hkd hpk, hfk, Option.map_some, run_setObj e1 (by simp : ∀ c t f, Obj.map E clock ≠ .cells c t f), Sem.run_pure]
        · refine ⟨_, heap_setObjW hsz, ?_, fun e he => e3 e ?_⟩
          · rw [Array.toList_eraseIdxIfInBounds, e2, dropAt_erase, eraseIdx_mapL]
          · rw [dropAt_erase] at he; exact List.mem_of_mem_eraseIdx he
      · rename_i hpk hf
        simp only [Option.some.injEq] at hp; subst hp
        have hset : setObjW w (φ.blk r) (.map E clock) = w := by
          have : w.heap.setIfInBounds (φ.blk r) (.map E clock) = w.heap := by
            apply Array.ext_getElem?
            intro i
            by_cases e : φ.blk r = i
            · subst e; rw [Array.getElem?_setIfInBounds_self_of_lt hsz, e1]
            · rw [Array.getElem?_setIfInBounds_ne e]
          simp only [setObjW, this]
        refine ⟨w, ?_, Post.refl hr⟩
        have hfk := run_findKey (P := P) (w := w) (φ := φ) hkd e2 hf
        have hrs : (setObj (φ.blk r) (.map E clock)).run P w = .ok () w := by rw [run_setObj e1 (by simp), hset]
        simp only [Builtin.delete_, ht0, ha0, ha1, Sem.run_bind, run_underlying hu, Result.andThen_ok, conc, e4, run_checkKey hkd hpk, hfk, Option.map_none, hrs, Sem.run_pure]
      · cases hp
    · cases hp
  · cases hp

theorem minmax_fold {less : Bool} {f : Value → Value → Sem Value} (hf : ∀ k x k' y, f (.int k x) (.int k' y) = pure (.int k (if less then (if y < x then y else x) else (if y > x then y else x)))) :
    ∀ (ys : List V) (x v : V), foldA (minA less) x ys = some v → ((concL φ ys).foldlM f (conc φ x)).run P w = .ok (conc φ v) w ∧ (x.ok φ.dom → v.ok φ.dom)
  | [], x, v, h => by
    simp only [foldA, Option.some.injEq] at h; subst h
    exact ⟨rfl, id⟩
  | y :: ys, x, v, h => by
    simp only [foldA] at h
    split at h
    · rename_i z hz
      unfold minA at hz
      split at hz
      · rename_i k a k' b
        obtain ⟨r1, r2⟩ := minmax_fold hf ys z v h
        cases less with
        | true =>
          simp only [Option.some.injEq] at hz; subst hz
          refine ⟨?_, fun _ => r2 trivial⟩
          simp only [concL, List.foldlM_cons, conc, hf, Sem.run_bind, Sem.run_pure, Result.andThen_ok, if_true]
          exact r1
        | false =>
          simp only [Option.some.injEq] at hz; subst hz
          refine ⟨?_, fun _ => r2 trivial⟩
          simp only [concL, List.foldlM_cons, conc, hf, Sem.run_bind, Sem.run_pure, Result.andThen_ok, Bool.false_eq_true, if_false]
          exact r1
      · cases hz
    · cases h

theorem sBuiltin_ok (hr : Rel φ h w) (hE : EnvRel φ n env a.tmps) {o : Oper} {b : Builtin} {xs : Array Operand} {ts : Array TypeId} (ho : o.op = .call { callee := .builtin b, args := xs, argTypes := ts }) {s : Step} (hs : sBuiltin P b xs ts env h = some s) :
    StepOk P φ h w ((execOp a.eval o).run P w) s := by
  unfold sBuiltin at hs
  split at hs
  · rename_i vs hvs
    obtain ⟨e1, e2⟩ := evalsA_arr hE hvs
    obtain ⟨v, h', hv, rfl⟩ := heapS_some hs
    have hop : execOp a.eval o = builtin b ts o.type (xs.map fun | .const _ => true | _ => false) (concL φ vs).toArray := by
      simp only [execOp, ho, resolve, pure_bind, invoke, e1]
      rfl
    rw [hop]
    have arg : ∀ i x, vs[i]? = some x → (concL φ vs).toArray[i]? = some (conc φ x) := fun i x hx => by
      rw [List.getElem?_toArray, concL_get, hx]; rfl
    have typ : ∀ i t, ts.toList[i]? = some t → ts[i]? = some t := fun i t ht => by rwa [Array.getElem?_toList] at ht
    unfold builtinA at hv
    split at hv
    · rename_i sT xT tr sx x vr hts
      have o1 : V.ok φ.dom sx := e2.1
      have o2 : V.ok φ.dom x := e2.2.1
      obtain ⟨φ', w', q1, q2, q3⟩ := appendA_ok (P := P) (ty := o.type) hr o1 o2 (typ 0 sT (by rw [hts]; rfl)) (typ 1 xT (by rw [hts]; rfl)) (arg 0 _ rfl) (arg 1 _ rfl) hv
      exact ⟨φ', w', by simp [builtin, q1], q2, q3⟩
    · rename_i t tr x vr hts
      split at hv
      · rename_i u hu
        simp only [Option.some.injEq, Prod.mk.injEq] at hv
        obtain ⟨rfl, rfl⟩ := hv
        obtain ⟨q1, q2⟩ := lenOp_ok (P := P) (ty := o.type) hr (x := x) e2.1 (typ 0 t (by rw [hts]; rfl)) (arg 0 _ rfl) hu
        exact stepOk_value hr (by simp [builtin, q1]) q2
      · cases hv
    · rename_i t tr x y vr hts
      obtain ⟨w', q1, q2, q3⟩ := copyA_ok (P := P) (ty := o.type) hr (x := x) (y := y) e2.1 e2.2.1 (typ 0 t (by rw [hts]; rfl)) (arg 0 _ rfl) (arg 1 _ rfl) hv
      exact ⟨φ, w', by simp [builtin, q1], q2, q3⟩
    · rename_i t tr x vr hts
      split at hv
      · rename_i h1 hu
        simp only [Option.some.injEq, Prod.mk.injEq] at hv
        obtain ⟨rfl, rfl⟩ := hv
        obtain ⟨w', q1, q2⟩ := clearA_ok (P := P) (ty := o.type) hr (x := x) e2.1 (typ 0 t (by rw [hts]; rfl)) (arg 0 _ rfl) hu
        exact ⟨φ, w', by show _ = Result.ok (Next.value (.tuple #[])) w'; simp [builtin, q1], q2, trivial⟩
      · cases hv
    · rename_i t tr x y vr hts
      split at hv
      · rename_i h1 hu
        simp only [Option.some.injEq, Prod.mk.injEq] at hv
        obtain ⟨rfl, rfl⟩ := hv
        obtain ⟨w', q1, q2⟩ := deleteA_ok (P := P) (ty := o.type) hr (m := x) (k := y) e2.1 (typ 0 t (by rw [hts]; rfl)) (arg 0 _ rfl) (arg 1 _ rfl) hu
        exact ⟨φ, w', by show _ = Result.ok (Next.value (.tuple #[])) w'; simp [builtin, q1], q2, trivial⟩
      · cases hv
    · rename_i x vr
      split at hv
      · rename_i u hu
        simp only [Option.some.injEq, Prod.mk.injEq] at hv
        obtain ⟨rfl, rfl⟩ := hv
        obtain ⟨q1, q2⟩ := minmax_fold (P := P) (w := w) (φ := φ) (f := Builtin.min2) (fun k x k' y => rfl) vr x u hu
        exact stepOk_value hr (by simp [builtin, Builtin.min_, concL, q1]) (q2 e2.1)
      · cases hv
    · rename_i x vr
      split at hv
      · rename_i u hu
        simp only [Option.some.injEq, Prod.mk.injEq] at hv
        obtain ⟨rfl, rfl⟩ := hv
        obtain ⟨q1, q2⟩ := minmax_fold (P := P) (w := w) (φ := φ) (less := false) (f := Builtin.max2) (fun k x k' y => rfl) vr x u hu
        exact stepOk_value hr (by simp [builtin, Builtin.max_, concL, q1]) (q2 e2.1)
      · cases hv
    · rename_i t tr ad m c vr hts
      split at hv
      · rename_i e hu
        simp only [Option.some.injEq, Prod.mk.injEq] at hv
        obtain ⟨rfl, rfl⟩ := hv
        have g0 := typ 0 t (by rw [hts]; rfl)
        refine stepOk_value hr ?_ trivial
        cases ad <;> simp [builtin, Builtin.cap_, g0, concL, conc, run_underlying hu, goInt]
      · cases hv
    · cases hv
  · cases hs

end
end Go.Abs
