/-
  Each operation's step is the model's: conversions, slices, values that are put together.
-/
import Derived.Test.YtaliknnfbjehhaaDoorAbsStep3
import Derived.Laws.BytesString
import Derived.Laws.BytesArg
import Derived.Laws.IdiomStrings
import Derived.Great.BuildSlice
set_option linter.all false
namespace Go.Abs
open Go.RowKit

section
variable {P : Program} {φ : Phi} {h : Heap} {w : World} {n : Nat} {env : Env} {a : Act}

/-! ### a row of the evaluator's own, with room behind -/

/-- A new row. -/
theorem Post.row (hr : Rel φ h w) {w' : World} (opn : Bool) (cells : List V) (C : Array Value) (t : TypeId) (lo hi : Nat) (hok : okL φ.dom cells) (hh : w'.heap = w.heap.push (.cells C t (lo, hi))) (ho : w'.os = w.os)
    (ht : w'.tape = w.tape) (hp : w'.output = w.output) (hfr : lo < hi → C.size ≤ lo) (hlen : cells.length ≤ C.size) (hC : ∀ (i : Nat) (v : Value), (concL φ cells)[i]? = some v → C[i]? = some v) :
    Post φ h w (φ.add h.next w.heap.size 0 C.size) (h.new (.row opn cells)).2 w' := by
  have hnd : ¬ φ.dom h.next := fun hd => Nat.lt_irrefl _ (hr.lt _ hd)
  have he := Ext.add hnd w.heap.size 0 C.size
  refine Post.alloc hr (.row opn cells) (.cells C t (lo, hi)) 0 C.size hh ho ht hp ?_
  refine ⟨C, t, lo, hi, by rw [Phi.add_blk, hh]; simp, fun _ => hfr, by rw [Phi.add_tot], by rw [Phi.add_base]; omega, fun i v hv => ?_, okL_mono he.dom _ hok⟩
  rw [Phi.add_base, Nat.zero_add]
  refine hC i _ ?_
  rw [concL_get, hv, Option.map_some, conc_ext he v (okL_iff.1 hok v (List.mem_of_getElem? hv))]

/-! ### zero cells -/

theorem timesA_length (z : List V) : ∀ n, (timesA z n).length = n * z.length
  | 0 => by simp [timesA]
  | n + 1 => by simp [timesA, app_eq, timesA_length z n, Nat.succ_mul]; omega

theorem timesA_get (z : List V) (hpos : 0 < z.length) : ∀ n i, (timesA z n)[i]? = if i < n * z.length then z[i % z.length]? else none
  | 0, i => by simp [timesA]
  | n + 1, i => by
    rw [timesA, app_eq]
    by_cases h1 : i < z.length
    · rw [List.getElem?_append_left h1, if_pos (by rw [Nat.succ_mul]; omega), Nat.mod_eq_of_lt h1]
    · rw [List.getElem?_append_right (by omega), timesA_get z hpos n]
      have e : (i - z.length) % z.length = i % z.length := (Nat.mod_eq_sub_mod (by omega)).symm
      rw [e, Nat.succ_mul]
      by_cases h2 : i - z.length < n * z.length
      · rw [if_pos h2, if_pos (by omega)]
      · rw [if_neg h2, if_neg (by omega)]

theorem timesA_ok {d : Nat → Prop} {z : List V} (hz : okL d z) : ∀ n, okL d (timesA z n)
  | 0 => trivial
  | n + 1 => by
    rw [timesA, app_eq, okL_iff]
    intro v hv
    rcases List.mem_append.1 hv with h | h
    · exact okL_iff.1 hz v h
    · exact okL_iff.1 (timesA_ok hz n) v h

theorem made_eq {v : Value} {z : List V} (hc : v.cells.toList = concL φ z) (hpos : 0 < z.length) (n : Nat) : (Array.range (n * z.length)).map (v.cells[· % v.cells.size]!) = (concL φ (timesA z n)).toArray := by
  have hsz : v.cells.size = z.length := by
    have := congrArg List.length hc
    rw [concL_map, List.length_map, Array.length_toList] at this; exact this
  apply Array.ext'
  apply List.ext_getElem?
  intro i
  rw [Array.toList_map, Array.toList_range, List.getElem?_map, concL_get, timesA_get z hpos]
  by_cases hi : i < n * z.length
  · rw [if_pos hi, List.getElem?_range hi]
    simp only [Option.map_some]
    have hlt : i % z.length < z.length := Nat.mod_lt _ hpos
    have h1 : v.cells.toList[i % v.cells.size]? = some (conc φ (z[i % z.length]'hlt)) := by
      rw [hc, hsz, concL_get, List.getElem?_eq_getElem hlt]; rfl
    rw [Array.getElem?_toList] at h1
    rw [List.getElem?_eq_getElem hlt, Option.map_some, getElem!_def, h1]
  · rw [if_neg hi, List.getElem?_eq_none (by simpa using hi)]; rfl

theorem zerosA_spec {elem : TypeId} {m size : Nat} {z : List V} (hz : zerosA P elem m size = some z) :
    (m * size = 0 ∧ z = []) ∨ ∃ i v u, P.info? elem = some i ∧ i.zero = some v ∧ (∀ φ, conc φ u = v) ∧ (∀ d, u.ok d) ∧ u.cells.length = size ∧ 0 < size ∧ z = timesA u.cells m := by
  unfold zerosA at hz
  split at hz
  · rename_i hb
    exact .inl ⟨Nat.eq_of_beq_eq_true hb, by simpa using hz.symm⟩
  · rename_i hb
    split at hz
    · rename_i u hu
      rw [lenL_eq] at hz
      split at hz
      · rename_i hl
        obtain ⟨i, v, h1, h2, h3, h4⟩ := info_of_zero hu
        refine .inr ⟨i, v, u, h1, h2, h3, h4, Nat.eq_of_beq_eq_true hl, ?_, by simpa using hz.symm⟩
        rcases Nat.eq_zero_or_pos size with h0 | h0
        · subst h0; simp at hb
        · exact h0
      · cases hz
    · cases hz

/-! ### conversions -/

theorem byteCells_conc (φ : Phi) (l : List UInt8) : concL φ (byteCells l) = l.map fun b => Value.int .u8 (b.toNat : Int) := by
  rw [concL_map, byteCells, List.map_map]; rfl
theorem byteCells_ok (d : Nat → Prop) (l : List UInt8) : okL d (byteCells l) := okL_iff.2 fun v hv => by
  obtain ⟨b, _, rfl⟩ := List.mem_map.1 hv; trivial

theorem bytesOfA_ints : ∀ {cs : List V} {l : List UInt8}, bytesOfA cs = some l → ∃ ns : List Int, concL φ cs = ns.map (Value.int .u8) ∧ l = ns.map fun n => UInt8.ofNat n.toNat
  | [], l, h => ⟨[], rfl, by simpa [bytesOfA] using h.symm⟩
  | v :: cs, l, h => by
    unfold bytesOfA at h
    split at h
    · rename_i he
      cases he
    · rename_i n vs he
      cases he
      split at h
      · rename_i l' hl
        obtain ⟨ns, h1, h2⟩ := bytesOfA_ints hl
        refine ⟨n :: ns, by simp only [concL, conc, List.map_cons, h1], ?_⟩
        simp only [Option.some.injEq] at h; subst h; subst h2; rfl
      · cases h
    · cases h

theorem bytes_back {src dst e : TypeId} {ad : Addr} {len cap : Nat} {cs : List V} {l : List UInt8} (hs : P.underlying src = some (.slice e)) (he : P.underlying e = some (.int .u8)) (hd : P.underlying dst = some .string)
    (hl : (loadCells ad len).run P w = .ok (concL φ cs).toArray w) (hb : bytesOfA cs = some l) : (convert src dst (.slice (some ad) len cap)).run P w = .ok (.string (str l)) w := by
  obtain ⟨ns, h1, h2⟩ := bytesOfA_ints (φ := φ) hb
  rw [run_convert_bytes_string w src dst e _ len cap hs he hd, run_bytesToString w ad len cap ns (by rw [hl, h1]), foldl_push_bytes, h2]
  congr 2
  simp [str, ByteArray.empty, ByteArray.emptyWithCapacity]
  rfl

theorem sConvert_ok (hr : Rel φ h w) (hE : EnvRel φ n env a.tmps) {o : Oper} {src dst : TypeId} {x : Operand} (ho : o.op = .convert src dst x) {s : Step} (hs : sConvert P src dst x env h = some s) :
    StepOk P φ h w ((execOp a.eval o).run P w) s := by
  unfold sConvert at hs
  split at hs
  · rename_i p hp
    obtain ⟨h1, h2⟩ := evalA_conc hE hp
    obtain ⟨v, h', hv, rfl⟩ := heapS_some hs
    unfold convertA at hv
    split at hv
    · rename_i d k k' m hu hd
      simp only [Option.some.injEq, Prod.mk.injEq] at hv; obtain ⟨rfl, rfl⟩ := hv
      refine stepOk_value hr ?_ trivial
      rw [wrapI_eq]
      simp [execOp, ho, h1, conc, convert, run_underlying hu, run_underlying hd, Conv.intToInt]
    · rename_i d l hu hd
      simp only [Option.some.injEq, Prod.mk.injEq] at hv; obtain ⟨rfl, rfl⟩ := hv
      refine stepOk_value hr ?_ trivial
      simp [execOp, ho, h1, conc, convert, run_underlying hu, run_underlying hd]
    · rename_i e l hu hd
      split at hv
      · rename_i he
        simp only [Heap.new, Option.some.injEq, Prod.mk.injEq] at hv; obtain ⟨rfl, rfl⟩ := hv
        rw [lenL_eq]
        have hrun := run_bytes_of_string (P := P) w src dst e (str l) hu hd he
        obtain ⟨c, hc0⟩ : ∃ c, c = grownCap w (str l).size 0 e := ⟨_, rfl⟩
        have hc : (str l).size ≤ c := by rw [hc0]; exact grownCap_ge w _ 0 e
        rw [← hc0] at hrun
        obtain ⟨C, hC0⟩ : ∃ C, C = bytesRow (str l) c := ⟨_, rfl⟩
        have hCs : C.size = c := by
          have : (str l).data.size = (str l).size := rfl
          rw [hC0]
          simp only [bytesRow, Array.size_append, Array.size_map, Array.size_replicate, this]; omega
        rw [← hC0, hCs] at hrun
        obtain ⟨w', hw'⟩ : ∃ w' : World, w' = w.drew.alloc (.cells C e (c, c + 1)) := ⟨_, rfl⟩
        rw [← hw'] at hrun
        have e1 : ((str l).data.map fun b => Value.int .u8 (b.toNat : Int)) = (l.map fun b => Value.int .u8 (b.toNat : Int)).toArray := by simp [str]
        refine ⟨φ.add h.next w.heap.size 0 C.size, w', ?_, Post.row hr true (byteCells l) C e c (c + 1) (byteCells_ok _ l) (by rw [hw']; rfl) (by rw [hw']; rfl) (by rw [hw']; rfl) (by rw [hw']; rfl) (fun _ => by rw [hCs]; exact Nat.le_refl _) ?_ ?_, .inl rfl⟩
        · simp only [execOp, ho, h1, conc, Sem.run_bind, hrun, Result.andThen_ok, Sem.run_pure, Phi.addr, Phi.add_blk, Phi.add_base, Phi.add_tot, hCs, str_size, Nat.zero_add, Nat.sub_zero, Nat.div_one]
        · rw [hCs, byteCells, List.length_map]; rw [str_size] at hc; exact hc
        · intro i v hv
          rw [byteCells_conc] at hv
          have hi : i < l.length := by have := (List.getElem?_eq_some_iff.1 hv).1; simpa using this
          rw [hC0, bytesRow, e1, Array.getElem?_append_left (by simpa using hi)]
          simpa using hv
      · cases hv
    · rename_i e ad len cap hu hd
      split at hv
      · rename_i he
        simp only [Option.some.injEq, Prod.mk.injEq] at hv; obtain ⟨rfl, rfl⟩ := hv
        refine stepOk_value hr ?_ trivial
        simp [execOp, ho, h1, conc, run_convert_bytes_string w src dst e _ _ _ hu he hd, Conv.bytesToString]; rfl
      · rename_i b he
        split at hv
        · rename_i cs hcs
          split at hv
          · rename_i l hl
            simp only [Option.some.injEq, Prod.mk.injEq] at hv; obtain ⟨rfl, rfl⟩ := hv
            obtain ⟨g1, g2, g3⟩ := run_load_cells P hr h2 hcs
            refine stepOk_value hr ?_ trivial
            simp [execOp, ho, h1, conc, bytes_back hu he hd g1 hl]
          · cases hv
        · cases hv
      · cases hv
    · rename_i e b off len k hu hd
      split at hv
      · rename_i he
        split at hv
        · rename_i cs hcs
          split at hv
          · rename_i l hl
            simp only [Option.some.injEq, Prod.mk.injEq] at hv; obtain ⟨rfl, rfl⟩ := hv
            obtain ⟨g1, g2, g3⟩ := run_load_cells P hr (a := (b, off)) h2 hcs
            refine stepOk_value hr ?_ trivial
            simp [execOp, ho, h1, conc, bytes_back hu he hd g1 hl]
          · cases hv
        · cases hv
      · cases hv
    · cases hv
  · cases hs

end
end Go.Abs
