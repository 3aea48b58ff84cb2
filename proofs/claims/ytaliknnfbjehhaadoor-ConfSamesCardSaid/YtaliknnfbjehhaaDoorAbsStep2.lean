/-
  Each operation's step is the model's: values, loads, stores, new variables.
-/
import Derived.Test.YtaliknnfbjehhaaDoorAbsHeap
import Derived.ChangeKeysEq
import Derived.Laws.StructEq
import Derived.Laws.Append
import Derived.Laws.MakeOwn
set_option linter.all false
namespace Go.Abs
open Go.RowKit

theorem run_sizeOf {P : Program} {t : TypeId} {i : TypeInfo} (h : P.info? t = some i) (w : World) : (sizeOf t).run P w = .ok i.size w := by
  simp [sizeOf, typeInfo, h]

structure EnvRel (φ : Phi) (n : Nat) (env : Env) (tmps : Array Value) : Prop where
  size : tmps.size = n
  get : ∀ t v, env.get t = some v → tmps[t]? = some (conc φ v) ∧ v.ok φ.dom

theorem EnvRel.ext {φ φ' : Phi} {n : Nat} {env : Env} {tmps : Array Value} (h : EnvRel φ n env tmps) (he : Ext φ φ') : EnvRel φ' n env tmps :=
  ⟨h.size, fun t v hv => by
    obtain ⟨h1, h2⟩ := h.get t v hv
    exact ⟨by rw [conc_ext he v h2]; exact h1, V.ok_mono he.dom v h2⟩⟩

theorem str_toList (s : ByteArray) : str s.data.toList = s := by
  cases s; rfl

theorem ofCell_conc {φ : Phi} {c : Value} {v : V} (h : ofCell c = some v) : conc φ v = c ∧ ∀ d, v.ok d := by
  cases c with
  | string s => simp only [ofCell, Option.some.injEq] at h; subst h; exact ⟨by simp only [conc, str_toList], fun _ => trivial⟩
  | pointer a => cases a <;> simp only [ofCell] at h <;> cases h; exact ⟨rfl, fun _ => trivial⟩
  | slice a n c => cases a <;> simp only [ofCell] at h <;> cases h; exact ⟨rfl, fun _ => trivial⟩
  | map a => cases a <;> simp only [ofCell] at h <;> cases h; exact ⟨rfl, fun _ => trivial⟩
  | _ => simp only [ofCell] at h <;> first | (cases h; exact ⟨rfl, fun _ => trivial⟩) | cases h

theorem ofCells_conc {φ : Phi} : ∀ {l : List Value} {vs : List V}, ofCells l = some vs → concL φ vs = l ∧ ∀ d, okL d vs
  | [], vs, h => by simp only [ofCells, Option.some.injEq] at h; subst h; exact ⟨rfl, fun _ => trivial⟩
  | v :: l, vs, h => by
    simp only [ofCells] at h
    split at h
    · rename_i x xs h1 h2
      simp only [Option.some.injEq] at h; subst h
      obtain ⟨a, b⟩ := ofCell_conc (φ := φ) h1
      obtain ⟨c, d⟩ := ofCells_conc (φ := φ) h2
      exact ⟨by simp only [concL, a, c], fun k => ⟨b k, d k⟩⟩
    · cases h

theorem ofValue_conc {φ : Phi} {c : Value} {v : V} (h : ofValue c = some v) : conc φ v = c ∧ ∀ d, v.ok d := by
  unfold ofValue at h
  split at h
  · rename_i cs
    obtain ⟨vs, hv, rfl⟩ := Option.map_eq_some_iff.1 h
    obtain ⟨a, b⟩ := ofCells_conc (φ := φ) hv
    exact ⟨by simp only [conc, a], fun d => b d⟩
  · exact ofCell_conc h

theorem evalA_conc {φ : Phi} {n : Nat} {env : Env} {a : Act} (h : EnvRel φ n env a.tmps) {x : Operand} {v : V} (hv : evalA env x = some v) : a.eval x = conc φ v ∧ v.ok φ.dom := by
  cases x with
  | tmp t =>
    obtain ⟨h1, h2⟩ := h.get t v hv
    exact ⟨by simp [Act.eval, h1], h2⟩
  | const c => obtain ⟨h1, h2⟩ := ofValue_conc (φ := φ) hv; exact ⟨by simp only [Act.eval, h1], h2 _⟩
  | global g => simp only [evalA] at hv; cases hv
  | func f => simp only [evalA, Option.some.injEq] at hv; subst hv; exact ⟨rfl, trivial, trivial⟩

theorem evalsA_cons (env : Env) (x : Operand) (xs : List Operand) : evalsA env (x :: xs) = (match evalA env x, evalsA env xs with | some v, some vs => some (v :: vs) | _, _ => none) := rfl

theorem evalsA_conc {φ : Phi} {n : Nat} {env : Env} {a : Act} (h : EnvRel φ n env a.tmps) : ∀ {l : List Operand} {vs : List V}, evalsA env l = some vs → l.map a.eval = concL φ vs ∧ okL φ.dom vs
  | [], vs, hv => by
    have : vs = [] := by simpa [evalsA] using hv.symm
    subst this; exact ⟨rfl, trivial⟩
  | x :: l, vs, hv => by
    rw [evalsA_cons] at hv
    split at hv
    · rename_i v us h1 h2
      simp only [Option.some.injEq] at hv; subst hv
      obtain ⟨a1, a2⟩ := evalA_conc h h1
      obtain ⟨b1, b2⟩ := evalsA_conc h h2
      exact ⟨by simp only [List.map_cons, concL, a1, b1], a2, b2⟩
    · cases hv

theorem evalsA_arr {φ : Phi} {n : Nat} {env : Env} {a : Act} (h : EnvRel φ n env a.tmps) {l : Array Operand} {vs : List V} (hv : evalsA env l.toList = some vs) : l.map a.eval = (concL φ vs).toArray ∧ okL φ.dom vs := by
  obtain ⟨h1, h2⟩ := evalsA_conc h hv
  refine ⟨?_, h2⟩
  rw [← h1, ← Array.toList_map, Array.toArray_toList]

/-- What a step must be of the model's. -/
def StepOk (P : Program) (φ : Phi) (h : Heap) (w : World) (r : Result Next) : Step → Prop
  | .value v h' => ∃ φ' w', r = .ok (.value (conc φ' v)) w' ∧ Post φ h w φ' h' w' ∧ v.ok φ'.dom
  | .skip h' => ∃ φ' w', r = .ok .skip w' ∧ Post φ h w φ' h' w'
  | .many l => ∃ v h' φ' w', (v, h') ∈ l ∧ r = .ok (.value (conc φ' v)) w' ∧ Post φ h w φ' h' w' ∧ v.ok φ'.dom
  | .call f args => r = (callFunc f (concL φ args).toArray).run P w ∧ okL φ.dom args

section
variable {P : Program} {φ : Phi} {h : Heap} {w : World} {n : Nat} {env : Env} {a : Act}

/-- A value that leaves all as it was. -/
theorem stepOk_value (hr : Rel φ h w) {v : V} {r : Result Next} (he : r = .ok (.value (conc φ v)) w) (hv : v.ok φ.dom) : StepOk P φ h w r (.value v h) :=
  ⟨φ, w, he, Post.refl hr, hv⟩

theorem sMove_ok (hr : Rel φ h w) (hE : EnvRel φ n env a.tmps) {o : Oper} {x : Operand} (ho : o.op = .move x ∨ o.op = .assign x) {s : Step} (hs : sMove x env h = some s) :
    StepOk P φ h w ((execOp a.eval o).run P w) s := by
  unfold sMove valueS at hs
  split at hs
  · rename_i v hh hv
    simp only [Option.some.injEq] at hs; subst hs
    obtain ⟨h1, h2⟩ := evalA_conc hE hv
    refine stepOk_value hr ?_ h2
    rcases ho with ho | ho <;> simp [execOp, ho, h1]
  · cases hs

theorem sPick_ok (hr : Rel φ h w) (hE : EnvRel φ n env a.tmps) {o : Oper} {c x y : Operand} (ho : o.op = .pick c x y) {s : Step} (hs : sPick c x y env h = some s) :
    StepOk P φ h w ((execOp a.eval o).run P w) s := by
  unfold sPick at hs
  split at hs
  · rename_i t hc
    obtain ⟨h1, _⟩ := evalA_conc hE hc
    cases t with
    | true =>
      simp only [valueS] at hs
      split at hs
      · rename_i v hh hv
        simp only [Option.some.injEq] at hs; subst hs
        obtain ⟨h3, h4⟩ := evalA_conc hE hv
        exact stepOk_value hr (by simp [execOp, ho, h1, h3, conc, asBool]) h4
      · cases hs
    | false =>
      simp only [valueS] at hs
      split at hs
      · rename_i v hh hv
        simp only [Option.some.injEq] at hs; subst hs
        obtain ⟨h3, h4⟩ := evalA_conc hE hv
        exact stepOk_value hr (by simp [execOp, ho, h1, h3, conc, asBool]) h4
      · cases hs
  · cases hs

theorem info_of_zero {t : TypeId} {z : V} (hz : zeroA P t = some z) : ∃ i v, P.info? t = some i ∧ i.zero = some v ∧ (∀ φ, conc φ z = v) ∧ ∀ d, z.ok d := by
  unfold zeroA at hz
  split at hz
  · rename_i i hi
    split at hz
    · rename_i v hv
      exact ⟨i, v, hi, hv, fun φ => (ofValue_conc hz).1, (ofValue_conc (φ := ⟨fun _ => True, id, id, id, 0⟩) hz).2⟩
    · cases hz
  · cases hz

theorem cells_conc (φ : Phi) (v : V) : (conc φ v).cells.toList = concL φ v.cells := by
  cases v with
  | ptr a => cases a <;> rfl
  | slice a n c => cases a <;> rfl
  | map r => cases r <;> rfl
  | _ => rfl

theorem cells_ok {d : Nat → Prop} {v : V} (h : v.ok d) : okL d v.cells := by
  cases v with
  | agg cs => exact h
  | _ => exact ⟨h, trivial⟩

/-- A new variable. -/
theorem newA_post (hr : Rel φ h w) {v : V} (hv : v.ok φ.dom) {p : V} {h' : Heap} (hn : newA h v = some (p, h')) (t : TypeId) :
    ∃ φ', p = .ptr (some (h.next, 0)) ∧ (newVar t (conc φ v)).run P w = .ok (φ'.addr (h.next, 0)) (w.alloc (.cells (conc φ v).cells t)) ∧ Post φ h w φ' h' (w.alloc (.cells (conc φ v).cells t)) ∧ p.ok φ'.dom := by
  unfold newA at hn
  split at hn
  · simp only [Heap.new, Option.some.injEq, Prod.mk.injEq] at hn
    obtain ⟨rfl, rfl⟩ := hn
    have hlen : (conc φ v).cells.size = v.cells.length := by
      have := congrArg List.length (cells_conc φ v)
      rw [concL_map, List.length_map, Array.length_toList] at this; exact this
    have hnd : ¬ φ.dom h.next := fun hd => Nat.lt_irrefl _ (hr.lt _ hd)
    have he := Ext.add hnd w.heap.size 0 v.cells.length
    refine ⟨φ.add h.next w.heap.size 0 v.cells.length, rfl, ?_, ?_, .inl rfl⟩
    · simp [newVar, newRow, Phi.addr, Phi.add_blk, Phi.add_base]
    · refine Post.alloc hr (.row false v.cells) (.cells (conc φ v).cells t) 0 v.cells.length rfl rfl rfl rfl ?_
      refine ⟨(conc φ v).cells, t, 0, 0, ?_, by omega, by rw [hlen, Phi.add_tot], by rw [hlen, Phi.add_base]; omega, fun i u hu => ?_, okL_mono he.dom _ (cells_ok hv)⟩
      · rw [Phi.add_blk]; show (w.heap.push _)[w.heap.size]? = _; simp
      · rw [Phi.add_base, Nat.zero_add, ← Array.getElem?_toList, cells_conc, concL_map, List.getElem?_map, hu]
        simp only [Option.map_some]
        rw [conc_ext he u (okL_iff.1 (cells_ok hv) u (List.mem_of_getElem? hu))]
  · cases hn

theorem sAlloc_ok (hr : Rel φ h w) {o : Oper} {t : TypeId} (ho : o.op = .alloc t) {s : Step} (hs : sAlloc P t env h = some s) :
    StepOk P φ h w ((execOp a.eval o).run P w) s := by
  unfold sAlloc at hs
  split at hs
  · rename_i z hz
    obtain ⟨i, v, h1, h2, h3, h4⟩ := info_of_zero hz
    unfold heapS at hs
    split at hs
    · rename_i p h' hn
      simp only [Option.some.injEq] at hs; subst hs
      obtain ⟨φ', rfl, h5, h6, h7⟩ := newA_post (P := P) hr (h4 _) hn t
      refine ⟨φ', _, ?_, h6, h7⟩
      rw [h3] at h5
      simp [execOp, ho, Instr.alloc, zeroValue, typeInfo, h1, h2, h5, conc, h3]
    · cases hs
  · cases hs

theorem sBox_ok (hr : Rel φ h w) (hE : EnvRel φ n env a.tmps) {o : Oper} {t : TypeId} {x : Operand} (ho : o.op = .box t x) {s : Step} (hs : sBox t x env h = some s) :
    StepOk P φ h w ((execOp a.eval o).run P w) s := by
  unfold sBox at hs
  split at hs
  · rename_i v hv
    obtain ⟨h1, h2⟩ := evalA_conc hE hv
    unfold heapS at hs
    split at hs
    · rename_i p h' hn
      simp only [Option.some.injEq] at hs; subst hs
      obtain ⟨φ', rfl, h5, h6, h7⟩ := newA_post (P := P) hr h2 hn t
      refine ⟨φ', _, ?_, h6, h7⟩
      simp [execOp, ho, Instr.box, h1, h5, conc]
    · cases hs
  · cases hs

theorem isAgg_run {t : TypeId} {b : Bool} (hb : isAggA P t = some b) (w : World) : (isAgg t).run P w = .ok b w := by
  unfold isAggA at hb
  split at hb
  · rename_i fs hu; simp only [Option.some.injEq] at hb; subst hb; simp [isAgg, run_underlying hu]
  · rename_i m e hu; simp only [Option.some.injEq] at hb; subst hb; simp [isAgg, run_underlying hu]
  · rename_i d hu h1 h2
    simp only [Option.some.injEq] at hb; subst hb
    simp only [isAgg, Sem.run_bind, run_underlying h2, Result.andThen_ok]
    cases d <;> first | rfl | (exfalso; exact hu _ rfl) | (exfalso; exact h1 _ _ rfl)
  · cases hb

theorem size_info {t : TypeId} {n : Nat} (h : sizeA P t = some n) : ∃ i, P.info? t = some i ∧ i.size = n := by
  unfold sizeA at h
  split at h
  · rename_i i hi; exact ⟨i, hi, by simpa using h⟩
  · cases h

theorem bytes_info {t : TypeId} {n : Nat} (h : bytesA P t = some n) : ∃ i, P.info? t = some i ∧ i.bytes = n := by
  unfold bytesA at h
  split at h
  · rename_i i hi; exact ⟨i, hi, by simpa using h⟩
  · cases h

/-- A load. -/
theorem loadA_run (hr : Rel φ h w) {t : TypeId} {p v : V} (hp : p.ok φ.dom) (hl : loadA P h t p = some v) :
    ∃ a0, p = .ptr (some a0) ∧ (loadVar t (φ.addr a0)).run P w = .ok (conc φ v) w ∧ v.ok φ.dom := by
  unfold loadA at hl
  split at hl
  · rename_i a0
    refine ⟨a0, rfl, ?_⟩
    split at hl
    · rename_i k hb hs
      split at hl
      · rename_i cs hcs
        simp only [Option.some.injEq] at hl; subst hl
        obtain ⟨i, h1, h2⟩ := size_info hs
        obtain ⟨h3, h4, h5⟩ := run_load_cells P hr hp hcs
        subst h2
        refine ⟨?_, h4⟩
        simp [loadVar, isAgg_run hb, run_sizeOf h1, h3, conc]
      · cases hl
    · rename_i k hb hs
      split at hl
      · rename_i u hcs
        simp only [Option.some.injEq] at hl; subst hl
        obtain ⟨h3, h4, h5⟩ := load_cells hr hp hcs
        have := h5 0 (conc φ u) (by simp [concL])
        refine ⟨?_, h4.1⟩
        rw [show (φ.addr a0).add 0 = φ.addr a0 from by simp [Addr.add]] at this
        simp [loadVar, isAgg_run hb, this]
      · cases hl
    · cases hl
  · cases hl

theorem sLoad_ok (hr : Rel φ h w) (hE : EnvRel φ n env a.tmps) {o : Oper} {t : TypeId} {x : Operand} (ho : o.op = .load t x) {s : Step} (hs : sLoad P t x env h = some s) :
    StepOk P φ h w ((execOp a.eval o).run P w) s := by
  unfold sLoad at hs
  split at hs
  · rename_i p hp
    obtain ⟨h1, h2⟩ := evalA_conc hE hp
    unfold valueS at hs
    split at hs
    · rename_i v hh hv
      simp only [Option.some.injEq] at hs; subst hs
      obtain ⟨a0, rfl, h3, h4⟩ := loadA_run (P := P) hr h2 hv
      refine stepOk_value hr ?_ h4
      simp [execOp, ho, h1, conc, Instr.loadAt, Instr.sureAddr, h3]
    · cases hs
  · cases hs

theorem sStore_ok (hr : Rel φ h w) (hE : EnvRel φ n env a.tmps) {o : Oper} {t : TypeId} {x y : Operand} (ho : o.op = .store t x y) {s : Step} (hs : sStore P t x y env h = some s) :
    StepOk P φ h w ((execOp a.eval o).run P w) s := by
  unfold sStore at hs
  split at hs
  · rename_i p v hp hv
    obtain ⟨h1, h2⟩ := evalA_conc hE hp
    obtain ⟨h3, h4⟩ := evalA_conc hE hv
    unfold skipS at hs
    split at hs
    · rename_i h' hh
      simp only [Option.some.injEq] at hs; subst hs
      unfold storeA at hh
      split at hh
      · rename_i a0 k hsz
        rw [lenL_eq] at hh
        split at hh
        · rename_i hk
          obtain ⟨i, h5, h6⟩ := size_info hsz
          obtain ⟨w', h7, h8⟩ := store_post P hr h2 (cells_ok h4) hh
          refine ⟨φ, w', ?_, h8⟩
          have hlen : (conc φ v).cells.size = i.size := by
            have := congrArg List.length (cells_conc φ v)
            rw [concL_map, List.length_map, Array.length_toList] at this
            rw [this, h6]; exact Nat.eq_of_beq_eq_true hk
          rw [← cells_conc] at h7
          simp [execOp, ho, h1, h3, conc, Instr.storeAt, Instr.sureAddr, storeVar, run_sizeOf h5, hlen, h7]
        · cases hh
      · cases hh
    · cases hs
  · cases hs

end
end Go.Abs

/-
  Each operation's step is the model's: functions, fields, elements, arithmetic.
-/
namespace Go.Abs
open Go.RowKit

section
variable {P : Program} {φ : Phi} {h : Heap} {w : World} {n : Nat} {env : Env} {a : Act}

theorem sMakeFunc_ok (hr : Rel φ h w) (hE : EnvRel φ n env a.tmps) {o : Oper} {fn : Fn} {x y : Array Operand} (ho : o.op = .makeFunc fn x y) {s : Step} (hs : sMakeFunc fn x y env h = some s) :
    StepOk P φ h w ((execOp a.eval o).run P w) s := by
  unfold sMakeFunc at hs
  split at hs
  · rename_i u v hu hv
    simp only [Option.some.injEq] at hs; subst hs
    obtain ⟨h1, h2⟩ := evalsA_arr hE hu
    obtain ⟨h3, h4⟩ := evalsA_arr hE hv
    exact stepOk_value hr (by simp [execOp, ho, Instr.makeFunc, h1, h3, conc]) ⟨h2, h4⟩
  · cases hs

theorem sMakeInterface_ok (hr : Rel φ h w) (hE : EnvRel φ n env a.tmps) {o : Oper} {t : TypeId} {x : Operand} (ho : o.op = .makeInterface t x) {s : Step} (hs : sMakeInterface P t x env h = some s) :
    StepOk P φ h w ((execOp a.eval o).run P w) s := by
  unfold sMakeInterface at hs
  split at hs
  · cases hs
  · rename_i u d hne hu hd
    simp only [Option.some.injEq] at hs; subst hs
    obtain ⟨h1, h2⟩ := evalA_conc hE hu
    refine stepOk_value hr ?_ h2
    simp only [execOp, ho, Instr.makeInterface, Sem.run_bind, run_underlying hd, Result.andThen_ok, h1]
    cases d <;> first | rfl | (exfalso; exact hne _ _ hu hd)
  · cases hs

theorem concL_get {φ : Phi} {l : List V} {i : Nat} : (concL φ l)[i]? = (l[i]?).map (conc φ) := by rw [concL_map, List.getElem?_map]

theorem sExtract_ok (hr : Rel φ h w) (hE : EnvRel φ n env a.tmps) {o : Oper} {x : Operand} {i : Nat} (ho : o.op = .extract x i) {s : Step} (hs : sExtract x i env h = some s) :
    StepOk P φ h w ((execOp a.eval o).run P w) s := by
  unfold sExtract at hs
  split at hs
  · rename_i vs hv
    rw [atL_eq] at hs
    split at hs
    · rename_i v hvi
      simp only [Option.some.injEq] at hs; subst hs
      obtain ⟨h1, h2⟩ := evalA_conc hE hv
      refine stepOk_value hr ?_ (okL_iff.1 h2 v (List.mem_of_getElem? hvi))
      have h3 : (concL φ vs)[i]? = some (conc φ v) := by rw [concL_get, hvi]; rfl
      simp [execOp, ho, Instr.extract, h1, conc, h3]
    · cases hs
  · cases hs

theorem sNilCheck_ok (hr : Rel φ h w) (hE : EnvRel φ n env a.tmps) {o : Oper} {x : Operand} (ho : o.op = .nilCheck x) {s : Step} (hs : sNilCheck x env h = some s) :
    StepOk P φ h w ((execOp a.eval o).run P w) s := by
  unfold sNilCheck at hs
  split at hs
  · rename_i b hv
    simp only [Option.some.injEq] at hs; subst hs
    obtain ⟨h1, h2⟩ := evalA_conc hE hv
    exact stepOk_value hr (by simp [execOp, ho, h1, conc]) h2
  · rename_i f u v hv
    simp only [Option.some.injEq] at hs; subst hs
    obtain ⟨h1, h2⟩ := evalA_conc hE hv
    exact stepOk_value hr (by simp [execOp, ho, h1, conc]) h2
  · cases hs

theorem sMakeMap_ok (hr : Rel φ h w) {o : Oper} {t : TypeId} {r : Option Operand} (ho : o.op = .makeMap t r) {s : Step} (hs : sMakeMap t r env h = some s) :
    StepOk P φ h w ((execOp a.eval o).run P w) s := by
  unfold sMakeMap at hs
  split at hs
  · simp only [Heap.new, Option.some.injEq] at hs; subst hs
    have hnd : ¬ φ.dom h.next := fun hd => Nat.lt_irrefl _ (hr.lt _ hd)
    refine ⟨φ.add h.next w.heap.size 0 0, w.alloc (.map #[] 0), ?_, Post.alloc hr (.map [] 0) (.map #[] 0) 0 0 rfl rfl rfl rfl ?_, .inl rfl⟩
    · simp [execOp, ho, Instr.makeMap, conc, Phi.add_blk]
    · exact ⟨#[], by rw [Phi.add_blk]; show (w.heap.push _)[w.heap.size]? = _; simp, rfl, fun e he => by cases he⟩
  · cases hs

theorem sFieldAddr_ok (hr : Rel φ h w) (hE : EnvRel φ n env a.tmps) {o : Oper} {t : TypeId} {x : Operand} {f : Nat} (ho : o.op = .fieldAddr t x f) {s : Step} (hs : sFieldAddr P t x f env h = some s) :
    StepOk P φ h w ((execOp a.eval o).run P w) s := by
  unfold sFieldAddr at hs
  split at hs
  · rename_i p hp
    obtain ⟨h1, h2⟩ := evalA_conc hE hp
    unfold valueS at hs
    split at hs
    · rename_i v hh hv
      simp only [Option.some.injEq] at hs; subst hs
      unfold fieldAddrA at hv
      split at hv
      · rename_i fs b off hu
        split at hv
        · rename_i g hg
          split at hv
          · rename_i m hm
            simp only [Option.some.injEq] at hv; subst hv
            obtain ⟨i, h3, h4⟩ := size_info hm
            refine stepOk_value hr ?_ h2
            have hne : i.size ≠ 0 := by omega
            have hadd : (φ.addr (b, off)).add g.offset = φ.addr (b, off + g.offset) := by
              simp only [Phi.addr, Addr.add_none, Nat.add_assoc]
            simp [execOp, ho, Instr.fieldAt, h1, conc, run_underlying hu, hg, Instr.sureAddr, fieldPlace, run_sizeOf h3, hne, hadd]
          · cases hv
        · cases hv
      · cases hv
    · cases hs
  · cases hs

/-- A part of a value. -/
theorem partA_run {t : TypeId} {cs : List V} {off : Nat} {v : V} (hp : partA P t cs off = some v) (hok : okL φ.dom cs) (w : World) :
    (part t (concL φ cs).toArray off).run P w = .ok (conc φ v) w ∧ v.ok φ.dom := by
  unfold partA at hp
  split at hp
  · rename_i m hb hs
    simp only [Option.some.injEq] at hp; subst hp
    obtain ⟨i, h1, h2⟩ := size_info hs
    rw [takeL_eq, dropL_eq]
    refine ⟨?_, okL_iff.2 fun v hv => okL_iff.1 hok v (List.mem_of_mem_drop (List.mem_of_mem_take hv))⟩
    have : (concL φ cs).toArray.extract off (off + i.size) = (concL φ ((cs.drop off).take i.size)).toArray := by
      rw [concL_map, concL_map]; simp
    subst h2
    simp only [part, Sem.run_bind, isAgg_run hb, Result.andThen_ok, if_true, run_sizeOf h1, this, Sem.run_pure, conc]
  · rename_i m hb hs
    rw [atL_eq] at hp
    have h3 : (concL φ cs)[off]? = some (conc φ v) := by rw [concL_get, hp]; rfl
    refine ⟨?_, okL_iff.1 hok v (List.mem_of_getElem? hp)⟩
    simp [part, isAgg_run hb, h3]
  · cases hp

theorem sField_ok (hr : Rel φ h w) (hE : EnvRel φ n env a.tmps) {o : Oper} {t : TypeId} {x : Operand} {f : Nat} (ho : o.op = .field t x f) {s : Step} (hs : sField P t x f env h = some s) :
    StepOk P φ h w ((execOp a.eval o).run P w) s := by
  unfold sField at hs
  split at hs
  · rename_i p hp
    obtain ⟨h1, h2⟩ := evalA_conc hE hp
    unfold valueS at hs
    split at hs
    · rename_i v hh hv
      simp only [Option.some.injEq] at hs; subst hs
      unfold fieldA at hv
      split at hv
      · rename_i fs cs hu
        split at hv
        · rename_i g hg
          obtain ⟨h3, h4⟩ := partA_run hv (φ := φ) h2 w
          refine stepOk_value hr ?_ h4
          simp [execOp, ho, Instr.field, h1, conc, run_underlying hu, hg, asAgg, h3]
        · cases hv
      · cases hv
    · cases hs
  · cases hs

theorem ltI_true {x y : Int} (h : ltI x y = true) : x < y := by rw [ltI_eq] at h; exact of_decide_eq_true h
theorem ltI_false {x y : Int} (h : ltI x y = false) : ¬ x < y := by rw [ltI_eq] at h; exact of_decide_eq_false h

theorem sIndexAddr_ok (hr : Rel φ h w) (hE : EnvRel φ n env a.tmps) {o : Oper} {t : TypeId} {x y : Operand} (ho : o.op = .indexAddr t x y) {s : Step} (hs : sIndexAddr P t x y env h = some s) :
    StepOk P φ h w ((execOp a.eval o).run P w) s := by
  unfold sIndexAddr at hs
  split at hs
  · rename_i p q hp hq
    obtain ⟨h1, h2⟩ := evalA_conc hE hp
    obtain ⟨h3, -⟩ := evalA_conc hE hq
    unfold valueS at hs
    split at hs
    · rename_i v hh hv
      simp only [Option.some.injEq] at hs; subst hs
      unfold indexAddrA at hv
      split at hv
      · rename_i e b off len cap k i hu
        split at hv
        · rename_i m hi0 hil hm
          simp only [Option.some.injEq] at hv; subst hv
          obtain ⟨j, h5, h6⟩ := size_info hm
          have g0 : 0 ≤ i := by have := ltI_false (by simpa using hi0); omega
          have g1 := ltI_true hil
          refine stepOk_value hr ?_ h2
          have hadd : (φ.addr (b, off)).add (i.toNat * j.size) = φ.addr (b, off + i.toNat * m) := by simp only [Phi.addr, Addr.add_none, Nat.add_assoc, h6]
          simp [execOp, ho, Instr.indexAt, h1, h3, conc, asIntOf, run_underlying hu, g0, g1, run_sizeOf h5, hadd]
        · cases hv
      · rename_i e b off len e' k i hu
        split at hv
        · rename_i m hi0 hil hm
          simp only [Option.some.injEq] at hv; subst hv
          obtain ⟨j, h5, h6⟩ := size_info hm
          have g0 : 0 ≤ i := by have := ltI_false (by simpa using hi0); omega
          have g1 := ltI_true hil
          refine stepOk_value hr ?_ h2
          have hadd : (φ.addr (b, off)).add (i.toNat * j.size) = φ.addr (b, off + i.toNat * m) := by simp only [Phi.addr, Addr.add_none, Nat.add_assoc, h6]
          simp [execOp, ho, Instr.indexAt, h1, h3, conc, asIntOf, run_underlying hu, g0, g1, run_sizeOf h5, hadd]
        · cases hv
      · rename_i len e b off k i hu
        split at hv
        · rename_i m hi0 hil hm
          simp only [Option.some.injEq] at hv; subst hv
          obtain ⟨j, h5, h6⟩ := size_info hm
          have g0 : 0 ≤ i := by have := ltI_false (by simpa using hi0); omega
          have g1 := ltI_true hil
          refine stepOk_value hr ?_ h2
          have hadd : (φ.addr (b, off)).add (i.toNat * j.size) = φ.addr (b, off + i.toNat * m) := by simp only [Phi.addr, Addr.add_none, Nat.add_assoc, h6]
          simp [execOp, ho, Instr.indexAt, h1, h3, conc, asIntOf, run_underlying hu, g0, g1, run_sizeOf h5, hadd, Instr.sureAddr]
        · cases hv
      · cases hv
    · cases hs
  · cases hs

theorem str_size (l : List UInt8) : (str l).size = l.length := by simp [str, ByteArray.size]

theorem sIndex_ok (hr : Rel φ h w) (hE : EnvRel φ n env a.tmps) {o : Oper} {t : TypeId} {x y : Operand} (ho : o.op = .index t x y) {s : Step} (hs : sIndex P t x y env h = some s) :
    StepOk P φ h w ((execOp a.eval o).run P w) s := by
  unfold sIndex at hs
  split at hs
  · rename_i p q hp hq
    obtain ⟨h1, h2⟩ := evalA_conc hE hp
    obtain ⟨h3, -⟩ := evalA_conc hE hq
    unfold valueS at hs
    split at hs
    · rename_i v hh hv
      simp only [Option.some.injEq] at hs; subst hs
      unfold indexA at hv
      split at hv
      · rename_i len e cs k i hu
        split at hv
        · rename_i m hi0 hil hm
          obtain ⟨j, h5, h6⟩ := size_info hm
          have g0 : 0 ≤ i := by have := ltI_false (by simpa using hi0); omega
          have g1 := ltI_true hil
          obtain ⟨h7, h8⟩ := partA_run hv (φ := φ) h2 w
          refine stepOk_value hr ?_ h8
          subst h6
          simp [execOp, ho, Instr.index, h1, h3, conc, asIntOf, run_underlying hu, g0, g1, run_sizeOf h5, h7]
        · cases hv
      · rename_i l k i hu
        split at hv
        · rename_i hi0
          rw [atL_eq] at hv
          split at hv
          · rename_i c hc
            simp only [Option.some.injEq] at hv; subst hv
            have g0 : 0 ≤ i := by have := ltI_false (by simpa using hi0); omega
            refine stepOk_value hr ?_ trivial
            have hlt : i.toNat < (str l).size := by rw [str_size]; exact (List.getElem?_eq_some_iff.1 hc).1
            have hb : (str l)[i.toNat]? = some c := by
              rw [getElem?_pos (str l) i.toNat hlt]
              congr 1
              exact (List.getElem?_eq_some_iff.1 hc).2
            simp [execOp, ho, Instr.index, h1, h3, conc, asIntOf, run_underlying hu, g0, hb]
          · cases hv
        · cases hv
      · cases hv
    · cases hs
  · cases hs

theorem sUnOp_ok (hr : Rel φ h w) (hE : EnvRel φ n env a.tmps) {o : Oper} {op : UnOp} {t : TypeId} {x : Operand} (ho : o.op = .unOp op t x) {s : Step} (hs : sUnOp op t x env h = some s) :
    StepOk P φ h w ((execOp a.eval o).run P w) s := by
  unfold sUnOp at hs
  split at hs
  · rename_i p hp
    obtain ⟨h1, h2⟩ := evalA_conc hE hp
    unfold valueS at hs
    split at hs
    · rename_i v hh hv
      simp only [Option.some.injEq] at hs; subst hs
      unfold unOpA at hv
      split at hv
      · rename_i k m
        simp only [Option.some.injEq] at hv; subst hv
        refine stepOk_value hr ?_ trivial
        rw [wrapI_eq]
        have e : Int.sub 0 m = 0 - m := rfl
        simp [execOp, ho, h1, conc, Op.unary, Op.intArith, e]
      · rename_i b
        simp only [Option.some.injEq] at hv; subst hv
        exact stepOk_value hr (by simp [execOp, ho, h1, conc, Op.unary]) trivial
      · cases hv
    · cases hs
  · cases hs

end
end Go.Abs
