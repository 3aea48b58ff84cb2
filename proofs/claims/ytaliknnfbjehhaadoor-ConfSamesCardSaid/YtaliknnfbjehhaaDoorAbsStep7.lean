/-
  Each operation's step is the model's: values and rows that are put together.
-/
import Derived.Test.YtaliknnfbjehhaaDoorAbsStep5
import Derived.Laws.RangeString
set_option linter.all false
namespace Go.Abs
open Go.RowKit

section
variable {P : Program} {φ : Phi} {h : Heap} {w : World} {n : Nat} {env : Env} {a : Act}

/-- Cells laid one by one. -/
theorem lay_cells (off : Nat) : ∀ (l : List Value) (k : Nat) (cs : Array Value) (i : Nat), off + k + l.length ≤ cs.size →
    ((l.zipIdx k).foldl (fun cs (p : Value × Nat) => cs.setIfInBounds (off + p.2) p.1) cs)[i]? = if off + k ≤ i ∧ i < off + k + l.length then l[i - (off + k)]? else cs[i]?
  | [], k, cs, i, _ => by simp; omega
  | v :: l, k, cs, i, hl => by
    simp only [List.length_cons] at hl
    rw [List.zipIdx_cons, List.foldl_cons, lay_cells off l (k + 1) _ i (by simp; omega)]
    simp only [List.length_cons]
    by_cases h1 : off + (k + 1) ≤ i ∧ i < off + (k + 1) + l.length
    · rw [if_pos h1, if_pos (by omega), show i - (off + k) = (i - (off + (k + 1))) + 1 by omega, List.getElem?_cons_succ]
    · rw [if_neg h1]
      by_cases h2 : i = off + k
      · subst h2
        rw [if_pos (by omega), Nat.sub_self, List.getElem?_cons_zero, Array.getElem?_setIfInBounds_self_of_lt (by omega)]
      · rw [if_neg (by omega), Array.getElem?_setIfInBounds_ne (by omega)]

theorem lay_array (off : Nat) (l : Array Value) (cs : Array Value) (hl : off + l.size ≤ cs.size) (i : Nat) :
    (l.zipIdx.foldl (fun cs (p : Value × Nat) => cs.setIfInBounds (off + p.2) p.1) cs)[i]? = if off ≤ i ∧ i < off + l.size then l[i - off]? else cs[i]? := by
  rw [← Array.foldl_toList, Array.toList_zipIdx]
  have := lay_cells off l.toList 0 cs i (by simpa using hl)
  simpa using this

theorem size_of_toList {v : Array Value} {l : List V} (h : v.toList = concL φ l) : v.size = l.length := by
  have := congrArg List.length h
  rw [concL_map, List.length_map, Array.length_toList] at this; exact this

theorem fillA_run {place : Nat → Option (Nat × Nat)} : ∀ {parts : List (Nat × V)} {cells cs : List V}, fillA place cells parts = some cs →
    Instr.fill place (concL φ cells).toArray (parts.map fun p => (p.1, conc φ p.2)) = some (concL φ cs).toArray ∧ cs.length = cells.length ∧ (∀ d : Nat → Prop, okL d cells → (∀ p ∈ parts, p.2.ok d) → okL d cs)
  | [], cells, cs, h => by
    simp only [fillA, Option.some.injEq] at h; subst h
    exact ⟨rfl, rfl, fun _ h _ => h⟩
  | (i, v) :: rest, cells, cs, h => by
    unfold fillA at h
    split at h
    · cases h
    · rename_i off size hp
      rw [lenL_eq, lenL_eq] at h
      split at h
      · rename_i hs hle
        have hs' := Nat.eq_of_beq_eq_true hs
        have hle' := Nat.le_of_ble_eq_true hle
        obtain ⟨r1, r2, r3⟩ := fillA_run h
        have hsz : (conc φ v).cells.size = v.cells.length := size_of_toList (cells_conc φ v)
        have hcz : (concL φ cells).toArray.size = cells.length := by simp [concL_map]
        refine ⟨?_, by rw [r2, splice_length hle'], fun d hd hp' => r3 d (okL_iff.2 fun u hu => ?_) (fun p hm => hp' p (List.mem_cons_of_mem _ hm))⟩
        · simp only [List.map_cons, Instr.fill, hp]
          rw [hsz, hcz, hs']
          rw [if_neg (by rw [← hs']; simp; omega)]
          have e : (conc φ v).cells.zipIdx.foldl (fun cs (p : Value × Nat) => cs.setIfInBounds (off + p.2) p.1) (concL φ cells).toArray = (concL φ (splice cells off v.cells)).toArray := by
            apply Array.ext_getElem?
            intro i
            rw [lay_array off _ _ (by rw [hsz, hcz]; exact hle'), hsz, ← Array.getElem?_toList, cells_conc]
            simp only [List.getElem?_toArray, concL_get, splice_get hle']
            split <;> rfl
          rw [e]; exact r1
        · obtain ⟨j, hj⟩ := List.getElem?_of_mem hu
          rw [splice_get hle'] at hj
          split at hj
          · exact okL_iff.1 (cells_ok (hp' (i, v) (List.mem_cons_self ..))) u (List.mem_of_getElem? hj)
          · exact okL_iff.1 hd u (List.mem_of_getElem? hj)
      · cases h

theorem evalParts_cons (env : Env) (i : Nat) (x : Operand) (xs : List (Nat × Operand)) : evalParts env ((i, x) :: xs) = (match evalParts env xs with | some vs => (match evalA env x with | some v => some ((i, v) :: vs) | none => none) | none => none) := by
  show (match ((i, x) : Nat × Operand), evalParts env xs with
    | (i, x), some vs => match evalA env x with
      | some v => some ((i, v) :: vs)
      | none => none
    | _, none => none) = _
  cases evalParts env xs <;> rfl

theorem evalParts_conc (hE : EnvRel φ n env a.tmps) : ∀ {l : List (Nat × Operand)} {ps : List (Nat × V)}, evalParts env l = some ps →
    (l.map fun p => (p.1, a.eval p.2)) = (ps.map fun p => (p.1, conc φ p.2)) ∧ ∀ p ∈ ps, p.2.ok φ.dom
  | [], ps, h => by
    have : ps = [] := by simpa [evalParts] using h.symm
    subst this; exact ⟨rfl, fun p hp => by cases hp⟩
  | (i, x) :: l, ps, h => by
    rw [evalParts_cons] at h
    split at h
    · rename_i vs hvs
      split at h
      · rename_i v hv
        simp only [Option.some.injEq] at h; subst h
        obtain ⟨h1, h2⟩ := evalA_conc hE hv
        obtain ⟨h3, h4⟩ := evalParts_conc hE hvs
        refine ⟨by simp only [List.map_cons, h1, h3], fun p hp => ?_⟩
        rcases List.mem_cons.1 hp with e | hp
        · subst e; exact h2
        · exact h4 p hp
      · cases h
    · cases h

theorem evalParts_arr (hE : EnvRel φ n env a.tmps) {l : Array (Nat × Operand)} {ps : List (Nat × V)} (h : evalParts env l.toList = some ps) :
    (l.map fun p => (p.1, a.eval p.2)) = (ps.map fun p => (p.1, conc φ p.2)).toArray ∧ ∀ p ∈ ps, p.2.ok φ.dom := by
  obtain ⟨h1, h2⟩ := evalParts_conc hE h
  refine ⟨?_, h2⟩
  rw [← h1, ← Array.toList_map, Array.toArray_toList]

theorem placesA_run : ∀ {l : List Field} {ps : List (Nat × Nat)}, placesA P l = some ps → (l.mapM fun f => do pure (f.offset, ← sizeOf f.type) : Sem (List (Nat × Nat))).run P w = .ok ps w
  | [], ps, h => by simp only [placesA, Option.some.injEq] at h; subst h; rfl
  | f :: l, ps, h => by
    unfold placesA at h
    split at h
    · rename_i m qs hm hq
      simp only [Option.some.injEq] at h; subst h
      obtain ⟨i, h1, h2⟩ := size_info hm
      have ih := placesA_run hq
      rw [List.mapM_cons]
      simp only [Sem.run_bind, run_sizeOf h1, Result.andThen_ok, Sem.run_pure, ih, h2]
    · cases h

theorem sBuild_ok (hr : Rel φ h w) (hE : EnvRel φ n env a.tmps) {o : Oper} {t : TypeId} {parts : Array (Nat × Operand)} (ho : o.op = .build t parts) {s : Step} (hs : sBuild P t parts env h = some s) :
    StepOk P φ h w ((execOp a.eval o).run P w) s := by
  unfold sBuild at hs
  split at hs
  · rename_i ps hps
    obtain ⟨e1, e2⟩ := evalParts_arr hE hps
    obtain ⟨v, hv, rfl⟩ := valueS_some hs
    have hop : execOp a.eval o = (do pure (.value (← Instr.build t (ps.map fun p => (p.1, conc φ p.2)).toArray))) := by
      simp only [execOp, ho]
      rw [← e1]
    rw [hop]
    unfold buildA at hv
    split at hv
    · rename_i z fs hz hu
      obtain ⟨i, u, g1, g2, g3, g4⟩ := info_of_zero hz
      split at hv
      · rename_i qs hqs
        split at hv
        · rename_i cs hcs
          simp only [Option.some.injEq] at hv; subst hv
          obtain ⟨r1, r2, r3⟩ := fillA_run (φ := φ) hcs
          have hz' : u.cells = (concL φ z.cells).toArray := by
            rw [← cells_conc, g3, Array.toArray_toList]
          have hpl : (fs.toList.mapM fun f => do pure (f.offset, ← sizeOf f.type) : Sem (List (Nat × Nat))).run P w = .ok qs w := placesA_run hqs
          refine stepOk_value hr ?_ (r3 _ (cells_ok (g4 _)) e2)
          have hm : (fs.mapM (fun f => do pure (f.offset, ← sizeOf f.type) : Field → Sem (Nat × Nat))).run P w = .ok qs.toArray w := by
            rw [Array.mapM_eq_mapM_toList, Sem.run_map, hpl]; rfl
          have hpf : (fun (i : Nat) => (qs.toArray)[i]?) = fun (i : Nat) => qs[i]? := by funext i; simp
          simp only [Instr.build, Sem.run_bind, zeroValue, typeInfo, run_program, Result.andThen_ok, g1, Sem.run_pure, g2, run_underlying hu, hm]
          rw [hpf, hz', r1]
          rfl
        · cases hv
      · cases hv
    · rename_i z m e hz hu
      obtain ⟨i, u, g1, g2, g3, g4⟩ := info_of_zero hz
      split at hv
      · rename_i k hk
        split at hv
        · rename_i cs hcs
          simp only [Option.some.injEq] at hv; subst hv
          obtain ⟨r1, r2, r3⟩ := fillA_run (φ := φ) hcs
          obtain ⟨j, h5, h6⟩ := size_info hk
          have hz' : u.cells = (concL φ z.cells).toArray := by
            rw [← cells_conc, g3, Array.toArray_toList]
          refine stepOk_value hr ?_ (r3 _ (cells_ok (g4 _)) e2)
          simp only [Instr.build, Sem.run_bind, zeroValue, typeInfo, run_program, Result.andThen_ok, g1, Sem.run_pure, g2, run_underlying hu, run_sizeOf h5]
          rw [h6, hz', r1]
          rfl
        · cases hv
      · cases hv
    · cases hv
  · cases hs

theorem elem_under {t e : TypeId} (he : elemA P t = some e) : P.underlying t = some (.slice e) := by
  unfold elemA at he
  split at he
  · rename_i e' hu; simp only [Option.some.injEq] at he; subst he; exact hu
  · cases he

theorem sBuildSlice_ok (hr : Rel φ h w) (hE : EnvRel φ n env a.tmps) {o : Oper} {t : TypeId} {len : Nat} {parts : Array (Nat × Operand)} (ho : o.op = .buildSlice t len parts) {s : Step} (hs : sBuildSlice P t len parts env h = some s) :
    StepOk P φ h w ((execOp a.eval o).run P w) s := by
  unfold sBuildSlice at hs
  split at hs
  · rename_i ps hps
    obtain ⟨e1, e2⟩ := evalParts_arr hE hps
    obtain ⟨v, h', hv, rfl⟩ := heapS_some hs
    have hop : execOp a.eval o = (do pure (.value (← Instr.buildSlice t len (ps.map fun p => (p.1, conc φ p.2)).toArray))) := by
      simp only [execOp, ho]
      rw [← e1]
    rw [hop]
    unfold buildSliceA at hv
    split at hv
    · rename_i e he
      have hu := elem_under he
      split at hv
      · rename_i k hk
        obtain ⟨inf, g1, g2⟩ := size_info hk
        split at hv
        · rename_i z hb hz
          have hb' := Nat.le_of_ble_eq_true hb
          split at hv
          · rename_i cs hcs
            split at hv
            · simp only [Heap.new, Option.some.injEq, Prod.mk.injEq] at hv
              obtain ⟨rfl, rfl⟩ := hv
              obtain ⟨r1, r2, r3⟩ := fillA_run (φ := φ) hcs
              have hsmall : ¬ len * inf.size > 2 ^ 24 := by rw [g2]; omega
              have hokz : okL φ.dom z := by
                rcases zerosA_spec hz with ⟨_, rfl⟩ | ⟨i, u, x, _, _, _, x4, _, _, rfl⟩
                · trivial
                · exact timesA_ok (cells_ok (x4 _)) len
              have hok : okL φ.dom cs := r3 _ hokz e2
              have hrun : (Instr.buildSlice t len (ps.map fun p => (p.1, conc φ p.2)).toArray).run P w = .ok (.slice (some ⟨w.heap.size, 0, none⟩) len len) (w.alloc (.cells (concL φ cs).toArray e)) := by
                rcases zerosA_spec hz with ⟨h0, rfl⟩ | ⟨i, u, x, x1, x2, x3, x4, x5, x6, rfl⟩
                · have h0' : len * inf.size = 0 := by rw [g2]; exact h0
                  have r1' : Instr.fill (fun i => some (i * inf.size, inf.size)) #[] (ps.map fun p => (p.1, conc φ p.2)) = some (concL φ cs).toArray := by rw [g2]; exact r1
                  simp [Instr.buildSlice, run_underlying hu, run_sizeOf g1, h0', Array.range_zero', r1', newRow]
                · have hi : inf = i := by rw [g1] at x1; simpa using x1
                  subst hi
                  have hx : u.cells.toList = concL φ x.cells := by rw [← x3 φ]; exact cells_conc φ x
                  have hm := made_eq (φ := φ) hx (by omega) len
                  rw [x5] at hm
                  have hne : ¬ len * inf.size = 0 ∨ len * inf.size = 0 := by omega
                  rcases hne with hne | hne
                  · exact run_buildSlice w t e len _ _ inf u hu g1 x2 hsmall hne (by rw [g2, hm]; exact r1)
                  · have hl0 : len = 0 := by
                      rw [g2] at hne
                      rcases Nat.mul_eq_zero.1 hne with h | h
                      · exact h
                      · omega
                    subst hl0
                    have r1' : Instr.fill (fun i => some (i * inf.size, inf.size)) #[] (ps.map fun p => (p.1, conc φ p.2)) = some (concL φ cs).toArray := by rw [g2]; exact r1
                    simp [Instr.buildSlice, run_underlying hu, run_sizeOf g1, Array.range_zero', r1', newRow]
              have hsz : (concL φ cs).toArray.size = cs.length := by simp [concL_map]
              refine ⟨φ.add h.next w.heap.size 0 (concL φ cs).toArray.size, w.alloc (.cells (concL φ cs).toArray e), ?_, Post.row hr false cs (concL φ cs).toArray e 0 0 hok rfl rfl rfl rfl (by omega) (by rw [hsz]; exact Nat.le_refl _) (fun i v hi => by simpa using hi), .inl rfl⟩
              rw [Sem.run_bind, hrun]
              simp [conc, Phi.addr, Phi.add_blk, Phi.add_base]
            · cases hv
          · cases hv
        · cases hv
      · cases hv
    · cases hv
  · cases hs

theorem sMakeSlice_ok (hr : Rel φ h w) (hE : EnvRel φ n env a.tmps) {o : Oper} {t : TypeId} {x y : Operand} (ho : o.op = .makeSlice t x y) {s : Step} (hs : sMakeSlice P t x y env h = some s) :
    StepOk P φ h w ((execOp a.eval o).run P w) s := by
  unfold sMakeSlice at hs
  split at hs
  · rename_i p q hp hq
    obtain ⟨h1, -⟩ := evalA_conc hE hp
    obtain ⟨h3, -⟩ := evalA_conc hE hq
    obtain ⟨v, h', hv, rfl⟩ := heapS_some hs
    unfold makeSliceA at hv
    split at hv
    · rename_i e kl l kc c he
      have hu := elem_under he
      split at hv
      · rename_i k bytes z0 hk hby hz0
        obtain ⟨inf, g1, g2⟩ := size_info hk
        obtain ⟨inf', g1', g2'⟩ := bytes_info hby
        obtain ⟨inf'', u0, y1, y2, y3, y4⟩ := info_of_zero hz0
        have e1 : inf' = inf := by rw [g1] at g1'; simpa using g1'.symm
        have e2 : inf'' = inf := by rw [g1] at y1; simpa using y1.symm
        subst e1; subst e2
        split at hv
        · rename_i hl0 hlc hb
          have hb' := Nat.le_of_ble_eq_true hb
          have q0 : 0 ≤ l := by have := ltI_false (by simpa using hl0); omega
          have q1 : l ≤ c := by have := ltI_false (by simpa using hlc); omega
          split at hv
          · rename_i zs hz
            split at hv
            · simp only [Heap.new, Option.some.injEq, Prod.mk.injEq] at hv
              obtain ⟨rfl, rfl⟩ := hv
              have hc1 : c.toNat ≤ 1099511627776 := by
                have : c.toNat * 1 ≤ c.toNat * (bytes + 1) := Nat.mul_le_mul_left _ (by omega)
                omega
              have hc2 : (inf''.bytes : Int) * c ≤ 281474976710656 := by
                have h1 : c.toNat * bytes ≤ c.toNat * (bytes + 1) := Nat.mul_le_mul_left _ (by omega)
                have h2 : ((c.toNat * bytes : Nat) : Int) ≤ 1099511627776 := by omega
                rw [Int.natCast_mul, Int.toNat_of_nonneg (by omega)] at h2
                rw [g2', Int.mul_comm]; omega
              have hrun := run_make (P := P) w t e inf'' u0 hu g1 y2 kl kc l c q0 q1 hc2 (by omega)
              have hcells : madeCells u0.cells (c.toNat * inf''.size) = (concL φ zs).toArray := by
                rcases zerosA_spec hz with ⟨h0, rfl⟩ | ⟨i, u, x, x1, x2, x3, x4, x5, x6, rfl⟩
                · rw [g2, h0]; simp [madeCells, concL]
                · have hi : inf'' = i := by rw [g1] at x1; simpa using x1
                  subst hi
                  have hu0 : u0 = u := by rw [y2] at x2; simpa using x2
                  subst hu0
                  have hx : u0.cells.toList = concL φ x.cells := by rw [← x3 φ]; exact cells_conc φ x
                  have hm := made_eq (φ := φ) hx (by omega) c.toNat
                  rw [x5] at hm
                  rw [g2]; exact hm
              have hok : okL φ.dom zs := by
                rcases zerosA_spec hz with ⟨_, rfl⟩ | ⟨i, u, x, _, _, _, x4, _, _, rfl⟩
                · trivial
                · exact timesA_ok (cells_ok (x4 _)) _
              have hsz : (concL φ zs).toArray.size = zs.length := by simp [concL_map]
              refine ⟨φ.add h.next w.heap.size 0 (concL φ zs).toArray.size, w.alloc (.cells (concL φ zs).toArray e), ?_, Post.row hr false zs (concL φ zs).toArray e 0 0 hok rfl rfl rfl rfl (by omega) (by rw [hsz]; exact Nat.le_refl _) (fun i v hi => by simpa using hi), .inl rfl⟩
              rw [hcells] at hrun
              simp [execOp, ho, h1, h3, conc, hrun, Phi.addr, Phi.add_blk, Phi.add_base]
            · cases hv
          · cases hv
        · cases hv
      · cases hv
    · cases hv
  · cases hs

end
end Go.Abs

/-
  Each operation's step is the model's: maps, ranges.
-/
namespace Go.Abs
open Go.RowKit

section
variable {P : Program} {φ : Phi} {h : Heap} {w : World} {n : Nat} {env : Env} {a : Act}

/-- An object set anew. -/
def setObjW (w : World) (r : Nat) (o : Obj) : World := { w with heap := w.heap.setIfInBounds r o }

theorem run_getObj {r : Nat} {o : Obj} (hg : w.heap[r]? = some o) (hn : ∀ c t f, o ≠ .cells c t f) : (getObj r).run P w = .ok o w := by
  cases o <;> first | (exact absurd rfl (hn _ _ _)) | simp only [getObj, Sem.run, hg]

theorem run_setObj {r : Nat} {o o' : Obj} (hg : w.heap[r]? = some o) (hn : ∀ c t f, o ≠ .cells c t f) : (setObj r o').run P w = .ok () (setObjW w r o') := by
  cases o <;> first | (exact absurd rfl (hn _ _ _)) | (simp only [setObj, Sem.run, hg]; rfl)

theorem Post.setObj (hr : Rel φ h w) {b : Nat} (hd : φ.dom b) (hl : h.lim ≤ b) (hv : live h b) {y : Blk} {o : Obj} (hy : BlkRel φ (setObjW w (φ.blk b) o) b y) :
    Post φ h w φ (h.set b y) (setObjW w (φ.blk b) o) := by
  have hl0 := hr.lims
  have hk : ∀ k, k ≠ φ.blk b → (setObjW w (φ.blk b) o).heap[k]? = w.heap[k]? := fun k hk => by
    simp only [setObjW]; rw [Array.getElem?_setIfInBounds_ne (by omega)]
  have hsz : (setObjW w (φ.blk b) o).heap.size = w.heap.size := by simp [setObjW]
  have tr : ∀ c, live (h.set b y) c → live h c := fun c ⟨z, hz, hn⟩ => by
    rw [Heap.get_set h (by omega)] at hz
    by_cases e : c = b
    · subst e; exact hv
    · rw [if_neg e] at hz; exact ⟨z, hz, hn⟩
  refine ⟨⟨hr.lt, Ext.refl φ, ⟨fun c x hc hx => ?_, hr.lt, fun c hc => by rw [hsz]; exact hr.size c hc, fun c c' hc hc' g1 g2 g3 g4 => hr.inj c c' hc hc' g1 (tr c g2) (tr c' g3) g4, hr.lims, hr.fz⟩,
    ⟨rfl, rfl, rfl, by rw [hsz]; exact Nat.le_refl _, fun k _ hb => hk k (fun e => hb b hd hl hv e.symm)⟩, fun _ hb hn => absurd hb hn, Eff.set h hr.lims hl hv _⟩, fun b h1 h2 => absurd (Nat.lt_of_lt_of_le h2 h1) (Nat.lt_irrefl _)⟩
  rw [Heap.get_set h (by omega)] at hx
  by_cases e : c = b
  · subst e
    rw [if_pos rfl] at hx
    simp only [Option.some.injEq] at hx
    subst hx; exact hy
  · rw [if_neg e] at hx
    by_cases hxd : x = .dead
    · subst hxd; exact trivial
    · exact (hr.blocks c x hc hx).keep (Ext.refl φ) hc (hk _ (fun he => e (hr.inj b c hd hc (by omega) hv ⟨x, hx, hxd⟩ he.symm).symm))

/-! ### keys -/

theorem run_checkKey {t : TypeId} {d : TypeDesc} (hu : P.underlying t = some d) (hp : plainKey d = true) (b : Bool) (v : Value) : (Instr.checkKey b 10000 t v).run P w = .ok () w := by
  have key : ∀ m, (Instr.checkKey b (m + 1) t v).run P w = .ok () w := fun m => by
    cases d <;> simp only [plainKey] at hp <;> first | (cases hp; done) | simp [Instr.checkKey, run_underlying hu]
  exact key 9999

theorem sameKey_now {d : TypeDesc} {k k' : V} {b : Bool} (hs : sameKeyA d k k' = some b) : Instr.sameNow d (conc φ k) (conc φ k') = some b ∧ (b = true → conc φ k = conc φ k' ∧ Instr.sameBits 10000 (conc φ k') (conc φ k) = true) := by
  unfold sameKeyA at hs
  split at hs
  · rename_i kk i x j y
    split at hs
    · rename_i hk
      have := (eqK_eq _ _).1 hk
      subst this
      simp only [Option.some.injEq] at hs; subst hs
      rw [eqI_beq]
      refine ⟨by simp [Instr.sameNow, conc], fun he => ?_⟩
      have := beq_iff_eq.1 he
      subst this
      exact ⟨rfl, by simp [Instr.sameBits, conc]⟩
    · cases hs
  · rename_i x y
    simp only [Option.some.injEq] at hs; subst hs
    rw [eqS_beq]
    refine ⟨?_, fun he => ?_⟩
    · simp only [Instr.sameNow, conc]
      rw [beq_toListBytes, str_list, str_list]
    · have := beq_iff_eq.1 he
      subst this
      exact ⟨rfl, by simp only [Instr.sameBits, conc]; rw [beq_toListBytes]; exact beq_self_eq_true _⟩
  · rename_i x y
    simp only [Option.some.injEq] at hs; subst hs
    refine ⟨by simp [Instr.sameNow, conc], fun he => ?_⟩
    have := beq_iff_eq.1 he
    subst this
    exact ⟨rfl, by simp [Instr.sameBits, conc]⟩
  · cases hs

theorem findA_now {d : TypeDesc} {k : V} : ∀ {es : List (V × V × Nat)} {i : Nat} {r : Option (Nat × V × Nat)}, findA d k es i = some r →
    Instr.findNow d (conc φ k) (es.map (concE φ)) i = some (r.map fun x => (x.1, conc φ x.2.1)) ∧
    ∀ j v born, r = some (j, v, born) → ∃ j' k', j = i + j' ∧ es[j']? = some (k', v, born) ∧ conc φ k = conc φ k' ∧ Instr.sameBits 10000 (conc φ k') (conc φ k) = true
  | [], i, r, h => by
    simp only [findA, Option.some.injEq] at h; subst h
    exact ⟨rfl, fun j v born h => by cases h⟩
  | (k', v, born) :: es, i, r, h => by
    simp only [findA] at h
    split at h
    · rename_i hs
      simp only [Option.some.injEq] at h; subst h
      obtain ⟨h1, h2⟩ := sameKey_now (φ := φ) hs
      refine ⟨by simp only [List.map_cons, Instr.findNow, concE, h1, Option.map_some], fun j v' born' he => ?_⟩
      simp only [Option.some.injEq, Prod.mk.injEq] at he
      obtain ⟨rfl, rfl, rfl⟩ := he
      exact ⟨0, k', rfl, rfl, (h2 rfl).1, (h2 rfl).2⟩
    · rename_i hs
      obtain ⟨h1, -⟩ := sameKey_now (φ := φ) hs
      obtain ⟨h3, h4⟩ := findA_now h
      refine ⟨by simp only [List.map_cons, Instr.findNow, concE, h1]; exact h3, fun j v' born' he => ?_⟩
      obtain ⟨j', k'', e1, e2, e3⟩ := h4 j v' born' he
      exact ⟨j' + 1, k'', by omega, by simpa using e2, e3⟩
    · cases h

theorem run_findKey {t : TypeId} {d : TypeDesc} {k : V} {es : List (V × V × Nat)} {E : Array MapEntry} {r : Option (Nat × V × Nat)} (hu : P.underlying t = some d) (hE : E.toList = es.map (concE φ)) (hf : findA d k es 0 = some r) :
    (Instr.findKey t (conc φ k) E.toList).run P w = .ok (r.map fun x => (x.1, conc φ x.2.1)) w := by
  simp only [Instr.findKey, Sem.run_bind, run_underlying hu, Result.andThen_ok, hE, (findA_now hf).1]
  rfl

theorem setAt_get (v : V) : ∀ (j : Nat) (es : List (V × V × Nat)) (i : Nat), (setAt v j es)[i]? = if i = j then (es[i]?).map fun e => (e.1, v, e.2.2) else es[i]?
  | _, [], i => by simp [setAt]
  | 0, (k, u, b) :: es, i => by
    cases i with
    | zero => simp [setAt]
    | succ i => simp [setAt]
  | j + 1, e :: es, i => by
    cases i with
    | zero => simp [setAt]
    | succ i => simp [setAt, setAt_get v j es i]

theorem mapBlk (hr : Rel φ h w) {r : Nat} (hd : φ.dom r) {es : List (V × V × Nat)} {clock : Nat} (hg : h.get r = some (.map es clock)) :
    ∃ E : Array MapEntry, w.heap[φ.blk r]? = some (.map E clock) ∧ E.toList = es.map (concE φ) ∧ (∀ e ∈ es, okE φ.dom e ∧ e.2.2 < clock) ∧ (getObj (φ.blk r)).run P w = .ok (.map E clock) w := by
  obtain ⟨E, h1, h2, h3⟩ := hr.blocks r _ hd hg
  exact ⟨E, h1, h2, h3, run_getObj h1 (by simp)⟩

theorem run_lookup {t key elem : TypeId} {kd : TypeDesc} {m : Value} {k : V} {ok : Bool} {es : List (V × V × Nat)} {r : Option (Nat × V × Nat)} (hu : P.underlying t = some (.map key elem)) (hkd : P.underlying key = some kd) (hp : plainKey kd = true)
    (hm : (m = .map none ∧ es = []) ∨ ∃ q E clock, m = .map (some q) ∧ (getObj q).run P w = .ok (.map E clock) w ∧ E.toList = es.map (concE φ)) (hf : findA kd k es 0 = some r) :
    (Instr.lookup t m (conc φ k) ok).run P w = match r with
      | some x => .ok (if ok then .tuple #[conc φ x.2.1, .bool true] else conc φ x.2.1) w
      | none => ((zeroValue elem).run P w).andThen fun z w' => .ok (if ok then .tuple #[z, .bool false] else z) w' := by
  rcases hm with ⟨rfl, rfl⟩ | ⟨q, E, clock, rfl, hg, hE⟩
  · simp only [findA, Option.some.injEq] at hf
    subst hf
    have hfk : (Instr.findKey key (conc φ k) []).run P w = .ok none w := run_findKey (φ := φ) (E := #[]) (es := []) hkd rfl rfl
    simp [Instr.lookup, run_underlying hu, run_checkKey hkd hp, hfk]
  · cases r with
    | none => simp [Instr.lookup, run_underlying hu, hg, run_checkKey hkd hp, run_findKey hkd hE hf]
    | some x => simp [Instr.lookup, run_underlying hu, hg, run_checkKey hkd hp, run_findKey hkd hE hf]

theorem sLookup_ok (hr : Rel φ h w) (hE : EnvRel φ n env a.tmps) {o : Oper} {t : TypeId} {x y : Operand} {ok : Bool} (ho : o.op = .lookup t x y ok) {s : Step} (hs : sLookup P t x y ok env h = some s) :
    StepOk P φ h w ((execOp a.eval o).run P w) s := by
  unfold sLookup at hs
  split at hs
  · rename_i m k hm hk
    obtain ⟨h1, h2⟩ := evalA_conc hE hm
    obtain ⟨h3, h4⟩ := evalA_conc hE hk
    obtain ⟨v, hv, rfl⟩ := valueS_some hs
    have hop : execOp a.eval o = (do pure (.value (← Instr.lookup t (conc φ m) (conc φ k) ok))) := by simp only [execOp, ho, h1, h3]
    rw [hop]
    unfold lookupA at hv
    split at hv
    · rename_i key elem hu
      split at hv
      · rename_i kd hkd
        split at hv
        · rename_i es hp hes
          have hmm : ((conc φ m = .map none ∧ es = []) ∨ ∃ q E clock, conc φ m = .map (some q) ∧ (getObj q).run P w = .ok (.map E clock) w ∧ E.toList = es.map (concE φ)) ∧ ∀ e ∈ es, okE φ.dom e := by
            split at hes
            · simp only [Option.some.injEq] at hes; subst hes
              exact ⟨.inl ⟨rfl, rfl⟩, by simp⟩
            · rename_i r
              split at hes
              · rename_i es' clock hg
                simp only [Option.some.injEq] at hes; subst hes
                obtain ⟨E, e1, e2, e3, e4⟩ := mapBlk (P := P) hr h2 hg
                exact ⟨.inr ⟨_, E, clock, rfl, e4, e2⟩, fun e he => (e3 e he).1⟩
              · cases hes
            · cases hes
          obtain ⟨hmm, e2⟩ := hmm
          split at hv
          · rename_i j v' born hf
            have hok : v'.ok φ.dom := by
              obtain ⟨j', k', -, g2, -⟩ := (findA_now (φ := φ) hf).2 j v' born rfl
              exact (e2 _ (List.mem_of_getElem? g2)).2
            have hr1 := run_lookup (ok := ok) hu hkd hp hmm hf
            cases ok with
            | true =>
              simp only [Option.some.injEq] at hv; subst hv
              refine stepOk_value hr ?_ ⟨hok, trivial, trivial⟩
              rw [Sem.run_bind, hr1]
              simp [conc, concL]
            | false =>
              simp only [Option.some.injEq] at hv; subst hv
              refine stepOk_value hr ?_ hok
              rw [Sem.run_bind, hr1]
              simp
          · rename_i hf
            have hr1 := run_lookup (ok := ok) hu hkd hp hmm hf
            split at hv
            · rename_i z hz
              obtain ⟨i, u, g1, g2, g3, g4⟩ := info_of_zero hz
              cases ok with
              | true =>
                simp only [Option.some.injEq] at hv; subst hv
                refine stepOk_value hr ?_ ⟨g4 _, trivial, trivial⟩
                rw [Sem.run_bind, hr1]
                simp [conc, concL, zeroValue, typeInfo, g1, g2, g3]
              | false =>
                simp only [Option.some.injEq] at hv; subst hv
                refine stepOk_value hr ?_ (g4 _)
                rw [Sem.run_bind, hr1]
                simp [zeroValue, typeInfo, g1, g2, g3]
            · cases hv
          · cases hv
        · cases hv
      · cases hv
    · cases hv
  · cases hs

theorem concE_set {es : List (V × V × Nat)} {E : Array MapEntry} {j : Nat} {k' k v u : V} {born : Nat} (hE : E.toList = es.map (concE φ)) (hj : es[j]? = some (k', u, born)) (hk : conc φ k = conc φ k') :
    (E.modify j fun e => { e with key := conc φ k, val := conc φ v }).toList = (setAt v j es).map (concE φ) := by
  apply List.ext_getElem?
  intro i
  rw [Array.getElem?_toList, Array.getElem?_modify, List.getElem?_map, setAt_get, ← Array.getElem?_toList, hE, List.getElem?_map]
  by_cases e : j = i
  · subst e
    rw [if_pos rfl, if_pos rfl, hj]
    simp only [Option.map_some, concE, hk]
  · rw [if_neg e, if_neg (by omega)]

theorem concE_val {es : List (V × V × Nat)} {E : Array MapEntry} {j : Nat} {k' v u : V} {born : Nat} (hE : E.toList = es.map (concE φ)) (hj : es[j]? = some (k', u, born)) :
    (E.modify j fun e => { e with val := conc φ v }).toList = (setAt v j es).map (concE φ) := by
  apply List.ext_getElem?
  intro i
  rw [Array.getElem?_toList, Array.getElem?_modify, List.getElem?_map, setAt_get, ← Array.getElem?_toList, hE, List.getElem?_map]
  by_cases e : j = i
  · subst e
    rw [if_pos rfl, if_pos rfl, hj]
    simp only [Option.map_some, concE]
  · rw [if_neg e, if_neg (by omega)]

theorem setAt_ok {d : Nat → Prop} {clock : Nat} {es : List (V × V × Nat)} {v : V} (hv : v.ok d) (he : ∀ e ∈ es, okE d e ∧ e.2.2 < clock) (j : Nat) : ∀ e ∈ setAt v j es, okE d e ∧ e.2.2 < clock := by
  intro e hm
  obtain ⟨i, hi⟩ := List.getElem?_of_mem hm
  rw [setAt_get] at hi
  split at hi
  · obtain ⟨x, hx, rfl⟩ := Option.map_eq_some_iff.1 hi
    have := he x (List.mem_of_getElem? hx)
    exact ⟨⟨this.1.1, hv⟩, this.2⟩
  · exact he e (List.mem_of_getElem? hi)

theorem keyStays {k k' : V} {x : Value} (hb : Instr.sameBits 10000 (conc φ k') (conc φ k) = true) (hx : x = conc φ k') : (Instr.keyThatStays x (conc φ k)).run P w = .ok (conc φ k) w := by
  subst hx; simp [Instr.keyThatStays, hb]

theorem heap_setObjW {r : Nat} {o : Obj} (hlt : r < w.heap.size) : (setObjW w r o).heap[r]? = some o := by
  simp only [setObjW]; rw [Array.getElem?_setIfInBounds_self_of_lt hlt]

theorem mapPut_run (hr : Rel φ h w) {t : TypeId} {m k v : V} {h' : Heap} {old : V} {born : Nat} (hm : m.ok φ.dom) (hk : k.ok φ.dom) (hv : v.ok φ.dom) (hp : mapPutA P h t m k v = some (h', old, born)) :
    ∃ w', (Instr.mapUpdate t (conc φ m) (conc φ k) (conc φ v)).run P w = .ok () w' ∧ Post φ h w φ h' w' := by
  unfold mapPutA at hp
  split at hp
  · rename_i key elem r hu
    split at hp
    · rename_i kd es clock z hkd hg hz hlim
      have hlim' := Nat.le_of_ble_eq_true hlim
      obtain ⟨E, e1, e2, e3, e4⟩ := mapBlk (P := P) hr hm hg
      have hlv : live h r := ⟨_, hg, by simp⟩
      have hsz := hr.size r hm
      split at hp
      · rename_i j u b hpk hf
        simp only [Option.some.injEq, Prod.mk.injEq] at hp
        obtain ⟨rfl, rfl, rfl⟩ := hp
        obtain ⟨j', k', g1, g2, g3, g4⟩ := (findA_now (φ := φ) hf).2 j u b rfl
        rw [Nat.zero_add] at g1; subst g1
        have hEj : (E[j]?).map (·.key) = some (conc φ k') := by
          rw [← Array.getElem?_toList, e2, List.getElem?_map, g2]; rfl
        refine ⟨setObjW w (φ.blk r) (.map (E.modify j fun e => { e with key := conc φ k, val := conc φ v }) clock), ?_, Post.setObj hr hm hlim' hlv ?_⟩
        · simp only [conc, Instr.mapUpdate, Sem.run_bind, run_underlying hu, Result.andThen_ok, e4, run_checkKey hkd hpk, run_findKey hkd e2 hf, Option.map_some, hEj, Option.getD_some, keyStays g4 rfl]
          exact run_setObj e1 (by simp)
        · exact ⟨_, heap_setObjW hsz, concE_set e2 g2 g3, setAt_ok hv e3 j⟩
      · rename_i hpk hf
        simp only [Option.some.injEq, Prod.mk.injEq] at hp
        obtain ⟨rfl, rfl, rfl⟩ := hp
        refine ⟨setObjW w (φ.blk r) (.map (E.push { key := conc φ k, val := conc φ v, born := clock }) (clock + 1)), ?_, Post.setObj hr hm hlim' hlv ?_⟩
        · simp only [conc, Instr.mapUpdate, Sem.run_bind, run_underlying hu, Result.andThen_ok, e4, run_checkKey hkd hpk, run_findKey hkd e2 hf, Option.map_none]
          exact run_setObj e1 (by simp)
        · refine ⟨_, heap_setObjW hsz, by rw [Array.toList_push, e2, app_eq]; simp [concE], fun e he => ?_⟩
          rw [app_eq] at he
          rcases List.mem_append.1 he with he | he
          · exact ⟨(e3 e he).1, by have := (e3 e he).2; omega⟩
          · simp only [List.mem_singleton] at he; subst he
            exact ⟨⟨hk, hv⟩, by simp⟩
      · cases hp
    · cases hp
  · cases hp

theorem sMapUpdate_ok (hr : Rel φ h w) (hE : EnvRel φ n env a.tmps) {o : Oper} {t : TypeId} {x y z : Operand} (ho : o.op = .mapUpdate t x y z) {s : Step} (hs : sMapUpdate P t x y z env h = some s) :
    StepOk P φ h w ((execOp a.eval o).run P w) s := by
  unfold sMapUpdate at hs
  split at hs
  · rename_i m k v hm hk hv
    obtain ⟨h1, h2⟩ := evalA_conc hE hm
    obtain ⟨h3, h4⟩ := evalA_conc hE hk
    obtain ⟨h5, h6⟩ := evalA_conc hE hv
    obtain ⟨h', hh, rfl⟩ := skipS_some hs
    unfold mapUpdateA at hh
    split at hh
    · rename_i h'' old born hp
      simp only [Option.some.injEq] at hh; subst hh
      obtain ⟨w', g1, g2⟩ := mapPut_run hr h2 h4 h6 hp
      exact ⟨φ, w', by simp [execOp, ho, h1, h3, h5, g1], g2⟩
    · cases hh
  · cases hs

theorem sMapEntry_ok (hr : Rel φ h w) (hE : EnvRel φ n env a.tmps) {o : Oper} {t : TypeId} {x y : Operand} (ho : o.op = .mapEntry t x y) {s : Step} (hs : sMapEntry P t x y env h = some s) :
    StepOk P φ h w ((execOp a.eval o).run P w) s := by
  unfold sMapEntry at hs
  split at hs
  · rename_i m k hm hk
    obtain ⟨h1, h2⟩ := evalA_conc hE hm
    obtain ⟨h3, h4⟩ := evalA_conc hE hk
    obtain ⟨v, h', hv, rfl⟩ := heapS_some hs
    unfold mapEntryA at hv
    split at hv
    · rename_i key elem r hu
      split at hv
      · rename_i kd es clock z hkd hg hz hlim
        have hlim' := Nat.le_of_ble_eq_true hlim
        obtain ⟨E, e1, e2, e3, e4⟩ := mapBlk (P := P) hr h2 hg
        have hlv : live h r := ⟨_, hg, by simp⟩
        have hsz := hr.size r h2
        obtain ⟨i, u, q1, q2, q3, q4⟩ := info_of_zero hz
        split at hv
        · rename_i j old born hpk hf
          simp only [Option.some.injEq, Prod.mk.injEq] at hv
          obtain ⟨rfl, rfl⟩ := hv
          obtain ⟨j', k', g1, g2, g3, g4⟩ := (findA_now (φ := φ) hf).2 j old born rfl
          rw [Nat.zero_add] at g1; subst g1
          have hEj : E[j]? = some (concE φ (k', old, born)) := by
            rw [← Array.getElem?_toList, e2, List.getElem?_map, g2]; rfl
          have hsame : (E.modify j fun e => { e with key := conc φ k }) = E := by
            apply Array.ext_getElem?
            intro i
            rw [Array.getElem?_modify]
            by_cases e : j = i
            · subst e; rw [if_pos rfl, hEj]; simp [concE, g3]
            · rw [if_neg e]
          have hset : setObjW w (φ.blk r) (.map (E.modify j fun e => { e with key := conc φ k }) clock) = w := by
            rw [hsame]
            have : w.heap.setIfInBounds (φ.blk r) (.map E clock) = w.heap := by
              apply Array.ext_getElem?
              intro i
              by_cases e : φ.blk r = i
              · subst e; rw [Array.getElem?_setIfInBounds_self_of_lt hsz, e1]
              · rw [Array.getElem?_setIfInBounds_ne e]
            simp only [setObjW, this]
          have hrs : (setObj (φ.blk r) (.map (E.modify j fun e => { e with key := conc φ k }) clock)).run P w = .ok () w := by
            rw [run_setObj e1 (by simp), hset]
          refine stepOk_value hr ?_ ⟨(e3 _ (List.mem_of_getElem? g2)).1.2, trivial, trivial⟩
          simp only [execOp, ho, h1, h3, conc, Instr.mapEntry, Sem.run_bind, run_underlying hu, Result.andThen_ok, e4, run_checkKey hkd hpk, run_findKey hkd e2 hf, Option.map_some, hEj, Option.getD_some, concE, keyStays g4 rfl, hrs, Sem.run_pure, goInt, concL]
        · rename_i hpk hf
          simp only [Option.some.injEq, Prod.mk.injEq] at hv
          obtain ⟨rfl, rfl⟩ := hv
          refine ⟨φ, setObjW w (φ.blk r) (.map (E.push { key := conc φ k, val := u, born := clock }) (clock + 1)), ?_, Post.setObj hr h2 hlim' hlv ?_, ⟨q4 _, trivial, trivial⟩⟩
          · simp only [execOp, ho, h1, h3, conc, Instr.mapEntry, Sem.run_bind, run_underlying hu, Result.andThen_ok, e4, run_checkKey hkd hpk, run_findKey hkd e2 hf, Option.map_none, zeroValue, typeInfo, run_program, q1, q2, Sem.run_pure, run_setObj e1 (by simp : ∀ c t f, Obj.map E clock ≠ .cells c t f), goInt, concL, q3]
          · refine ⟨_, heap_setObjW hsz, by rw [Array.toList_push, e2, app_eq]; simp [concE, q3], fun e he => ?_⟩
            rw [app_eq] at he
            rcases List.mem_append.1 he with he | he
            · exact ⟨(e3 e he).1, by have := (e3 e he).2; omega⟩
            · simp only [List.mem_singleton] at he; subst he
              exact ⟨⟨h4, q4 _⟩, by simp⟩
        · cases hv
      · cases hv
    · cases hv
  · cases hs

theorem bornAt_spec {n : Int} : ∀ {es : List (V × V × Nat)} {i j : Nat}, bornAt n es i = some j → ∃ j' e, j = i + j' ∧ es[j']? = some e ∧ ((es.map (concE φ)).findIdx? fun e => (e.born : Int) == n) = some j'
  | [], i, j, h => by simp [bornAt] at h
  | (k, v, b) :: es, i, j, h => by
    simp only [bornAt] at h
    have e0 : ((concE φ (k, v, b)).born : Int) == n ↔ (b : Int) == n := Iff.rfl
    split at h
    · rename_i hb
      simp only [Option.some.injEq] at h; subst h
      refine ⟨0, _, rfl, rfl, ?_⟩
      rw [List.map_cons, List.findIdx?_cons, if_pos (e0.2 hb)]
    · rename_i hb
      obtain ⟨j', e, h1, h2, h3⟩ := bornAt_spec h
      refine ⟨j' + 1, e, by omega, by simpa using h2, ?_⟩
      rw [List.map_cons, List.findIdx?_cons, if_neg (fun hc => by rw [e0.1 hc] at hb; cases hb), h3]; rfl

theorem sEntryStore_ok (hr : Rel φ h w) (hE : EnvRel φ n env a.tmps) {o : Oper} {t : TypeId} {x y z : Operand} (ho : o.op = .entryStore t x y z) {s : Step} (hs : sEntryStore t x y z env h = some s) :
    StepOk P φ h w ((execOp a.eval o).run P w) s := by
  unfold sEntryStore at hs
  split at hs
  · rename_i m k v hm hk hv
    obtain ⟨h1, h2⟩ := evalA_conc hE hm
    obtain ⟨h3, h4⟩ := evalA_conc hE hk
    obtain ⟨h5, h6⟩ := evalA_conc hE hv
    obtain ⟨h', hh, rfl⟩ := skipS_some hs
    unfold entryStoreA at hh
    split at hh
    · rename_i r kk nn
      split at hh
      · rename_i es clock hg hlim
        have hlim' := Nat.le_of_ble_eq_true hlim
        split at hh
        · rename_i j hj
          simp only [Option.some.injEq] at hh; subst hh
          obtain ⟨E, e1, e2, e3, e4⟩ := mapBlk (P := P) hr h2 hg
          have hlv : live h r := ⟨_, hg, by simp⟩
          have hsz := hr.size r h2
          obtain ⟨j', e, g1, g2, g3⟩ : ∃ j' e, j = 0 + j' ∧ es[j']? = some e ∧ ((es.map (concE φ)).findIdx? fun e => (e.born : Int) == nn) = some j' := bornAt_spec hj
          rw [Nat.zero_add] at g1; subst g1
          obtain ⟨k', u, born⟩ := e
          have hfi : (E.findIdx? fun e => (e.born : Int) == nn) = some j := by
            rw [← e2] at g3
            have e5 := List.findIdx?_toArray (fun e : MapEntry => (e.born : Int) == nn) E.toList
            rw [Array.toArray_toList] at e5
            rw [e5]; exact g3
          refine ⟨φ, setObjW w (φ.blk r) (.map (E.modify j fun e => { e with val := conc φ v }) clock), ?_, Post.setObj hr h2 hlim' hlv ?_⟩
          · simp only [execOp, ho, h1, h3, h5, conc, Instr.entryStore, Sem.run_bind, e4, Result.andThen_ok, asInt, asIntOf, Sem.run_pure, hfi, run_setObj e1 (by simp : ∀ c t f, Obj.map E clock ≠ .cells c t f)]
          · exact ⟨_, heap_setObjW hsz, concE_val e2 g2, setAt_ok h6 e3 j⟩
        · cases hh
      · cases hh
    · cases hh
  · cases hs

end
end Go.Abs
