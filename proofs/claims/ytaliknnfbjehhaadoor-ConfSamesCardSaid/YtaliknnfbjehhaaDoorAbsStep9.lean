/-
  Each operation's step is the model's: append.
-/
import Derived.Test.YtaliknnfbjehhaaDoorAbsStep8
import Derived.Laws.AppendOwn
set_option linter.all false
namespace Go.Abs
open Go.RowKit

section
variable {P : Program} {φ : Phi} {h : Heap} {w : World} {n : Nat} {env : Env} {a : Act}

theorem firstA_run (hr : Rel φ h w) {size n : Nat} {x : V} {new : List V} (hx : x.ok φ.dom) (hf : firstA h size n x = some new) :
    (Builtin.firstCells size n (conc φ x)).run P w = .ok (concL φ new).toArray w ∧ okL φ.dom new := by
  unfold firstA at hf
  split at hf
  · simp only [Option.some.injEq] at hf; subst hf
    exact ⟨rfl, trivial⟩
  · rename_i ad len cap
    split at hf
    · rename_i hz
      simp only [Option.some.injEq] at hf; subst hf
      have hz' := Nat.eq_of_beq_eq_true hz
      refine ⟨?_, trivial⟩
      simp only [conc, Builtin.firstCells, hz']
      rfl
    · obtain ⟨h1, h2, h3⟩ := run_load_cells P hr hx hf
      exact ⟨by simp only [conc, Builtin.firstCells, h1], h2⟩
  · rename_i b off len e
    split at hf
    · rename_i hz
      simp only [Option.some.injEq] at hf; subst hf
      have hz' := Nat.eq_of_beq_eq_true hz
      refine ⟨?_, trivial⟩
      simp only [conc, Builtin.firstCells, hz']
      rfl
    · obtain ⟨h1, h2, h3⟩ := run_load_cells P hr (a := (b, off)) hx hf
      exact ⟨by simp only [conc, Builtin.firstCells, h1], h2⟩
  · rename_i l
    split at hf
    · simp only [Option.some.injEq] at hf; subst hf
      refine ⟨?_, byteCells_ok _ (l.take n)⟩
      have e : ((str l).extract 0 n).data.map (fun b => Value.int .u8 (b.toNat : Int)) = (concL φ ((l.take n).map fun c => V.int .u8 c.toNat)).toArray := by
        rw [str_extract, show (l.take n).map (fun c => V.int .u8 c.toNat) = byteCells (l.take n) from rfl, byteCells_conc]
        simp [str]
      simp only [conc, Builtin.firstCells, Sem.run_pure]
      rw [e]
    · cases hf
  · cases hf

theorem lenA_run {x : V} {m : Nat} (hl : lenA x = some m) : (Builtin.lenOf (conc φ x)).run P w = .ok m w := by
  unfold lenA at hl
  split at hl
  · rename_i b k c; simp only [Option.some.injEq] at hl; subst hl; cases b <;> rfl
  · simp only [Option.some.injEq] at hl; subst hl; rfl
  · rename_i l; simp only [Option.some.injEq] at hl; subst hl
    rw [lenL_eq]
    simp only [conc, Builtin.lenOf, str_size, Sem.run_pure]
  · cases hl

theorem isIntD_ne {d : TypeDesc} (h : isIntD d = false) : ∀ k, d = .int k → False := by
  intro k e; subst e; simp [isIntD] at h

section
variable {sT xT elem : TypeId} {d : TypeDesc} {inf : TypeInfo} {base : Option Addr} {len cap m : Nat} {xv : Value} {ts : Array TypeId} {ty : TypeId} {args : Array Value} {new : Array Value} {w' : World}

theorem run_append_in (hu : P.underlying sT = some (.slice elem)) (hd : P.underlying xT = some d) (hz : isIntD d = false) (hi : P.info? elem = some inf) (hn : (Builtin.lenOf xv).run P w = .ok m w) (hfit : len + m ≤ cap)
    (hf : (Builtin.firstCells inf.size m xv).run P w = .ok new w) (hst : ∀ ad, base = some ad → (storeCells (ad.add (len * inf.size)) new.toList).run P w = .ok () w') (hb : base = none → w' = w)
    (ht0 : ts[0]? = some sT) (ht1 : ts[1]? = some xT) (ha0 : args[0]? = some (.slice base len cap)) (ha1 : args[1]? = some xv) :
    (Builtin.append_ ts ty args).run P w = .ok (.slice base (len + m) cap) w' := by
  have hz' := isIntD_ne hz
  cases base with
  | none =>
    have := hb rfl; subst this
    simp [Builtin.append_, ht0, ht1, ha0, ha1, run_underlying hu, run_underlying hd, run_sizeOf hi, hn, hfit, hf]
  | some ad =>
    have := hst ad rfl
    simp [Builtin.append_, ht0, ht1, ha0, ha1, run_underlying hu, run_underlying hd, run_sizeOf hi, hn, hfit, hf, this]

theorem run_append_new {z : Value} {old : Array Value} (hu : P.underlying sT = some (.slice elem)) (hd : P.underlying xT = some d) (hz : isIntD d = false) (hi : P.info? elem = some inf) (hz0 : inf.zero = some z)
    (hn : (Builtin.lenOf xv).run P w = .ok m w) (hfit : ¬ len + m ≤ cap) (hbound : (len + m) * (inf.bytes + 1) ≤ 1099511627776)
    (hfo : (Builtin.firstCells inf.size len (.slice base len cap)).run P w.drew = .ok old w.drew) (hf : (Builtin.firstCells inf.size m xv).run P w.drew = .ok new w.drew)
    (ht0 : ts[0]? = some sT) (ht1 : ts[1]? = some xT) (ha0 : args[0]? = some (.slice base len cap)) (ha1 : args[1]? = some xv) :
    (Builtin.append_ ts ty args).run P w = .ok (.slice (some ⟨w.heap.size, 0, none⟩) (len + m) (grownCap w (len + m) cap elem))
      (w.drew.alloc (.cells (old ++ new ++ Builtin.zeroCells z.cells (grownCap w (len + m) cap elem - (len + m))) elem)) := by
  have hz' := isIntD_ne hz
  have hb1 : len + m ≤ 1099511627776 := by
    have : (len + m) * 1 ≤ (len + m) * (inf.bytes + 1) := Nat.mul_le_mul_left _ (by omega)
    omega
  have h63 : ¬ (9223372036854775807 < ((len : Int) + (m : Int))) := by omega
  have h48 : ¬ (281474976710656 < Builtin.nextslicecap (len + m) cap * inf.bytes) := by
    have h1 := nextslicecap_le (need := len + m) (old := cap) (by omega)
    have h2 : Builtin.nextslicecap (len + m) cap * inf.bytes ≤ 2 * (len + m) * inf.bytes := Nat.mul_le_mul_right _ h1
    have h3 : (len + m) * inf.bytes ≤ (len + m) * (inf.bytes + 1) := Nat.mul_le_mul_left _ (by omega)
    rw [Nat.mul_assoc] at h2
    omega
  have hch : (choose (.appendCap (len + m) cap elem)).run P w = .ok (grownCap w (len + m) cap elem) w.drew := by
    rw [run_choose]; rfl
  simp [Builtin.append_, ht0, ht1, ha0, ha1, run_underlying hu, run_underlying hd, run_sizeOf hi, hn, hfit, typeInfo, hi, h63, h48, hfo, hf, zeroValue, hz0, newRow, Question.forced, grownCap]
end

/-- A row grown: what the evaluator's step leaves. -/
theorem growA_post (hr : Rel φ h w) {h' : Heap} {e m len : Nat} {old new : List V} {v : V} {z : Value} {elem : TypeId} (hpos : 0 < e) (hzs : z.cells.size = e) (hoo : okL φ.dom old) (hon : okL φ.dom new)
    (hg : growA h e m len (some old) new = some (v, h')) (g : Nat) (hge : len + m ≤ g) :
    ∃ φ', v = .oslice h.next 0 (len + m) e ∧ conc φ' v = .slice (some ⟨w.heap.size, 0, none⟩) (len + m) g ∧ v.ok φ'.dom ∧
      Post φ h w φ' h' (w.drew.alloc (.cells ((concL φ old).toArray ++ (concL φ new).toArray ++ Builtin.zeroCells z.cells (g - (len + m))) elem)) := by
  unfold growA at hg
  simp only [lenL_eq, app_eq] at hg
  split at hg
  · rename_i hl1 hl2 hc
    have hl1' := Nat.eq_of_beq_eq_true hl1
    have hl2' := Nat.eq_of_beq_eq_true hl2
    simp only [Heap.new, Option.some.injEq, Prod.mk.injEq] at hg
    obtain ⟨rfl, rfl⟩ := hg
    obtain ⟨C, hC⟩ : ∃ C, C = (concL φ old).toArray ++ (concL φ new).toArray ++ Builtin.zeroCells z.cells (g - (len + m)) := ⟨_, rfl⟩
    rw [← hC]
    have hCs : C.size = g * e := by
      rw [hC]
      simp only [Array.size_append, List.size_toArray, concL_map, List.length_map, size_zeroCells, hzs, hl1', hl2']
      rw [← Nat.add_mul, ← Nat.add_mul]; congr 1; omega
    have hr1 := Post.draws (w' := w.drew) hr rfl rfl rfl rfl
    refine ⟨φ.add h.next w.heap.size 0 C.size, rfl, ?_, .inl rfl, hr1.trans (Post.row hr1.rel true (old ++ new) C elem 0 0 (okL_iff.2 fun v hv => ?_) rfl rfl rfl rfl (by omega) ?_ (fun i v hv => ?_))⟩
    · simp only [conc, Phi.addr, Phi.add_blk, Phi.add_base, Phi.add_tot, Nat.zero_add, Nat.sub_zero, hCs]
      rw [Nat.mul_div_cancel _ hpos]
    · rcases List.mem_append.1 hv with hv | hv
      · exact okL_iff.1 hoo v hv
      · exact okL_iff.1 hon v hv
    · rw [hCs, List.length_append, hl1', hl2', ← Nat.add_mul]; exact Nat.mul_le_mul_right _ hge
    · have hi : i < (concL φ (old ++ new)).length := (List.getElem?_eq_some_iff.1 hv).1
      rw [hC, Array.getElem?_append_left (by simp only [Array.size_append, List.size_toArray]; rw [concL_map, concL_map]; rw [concL_map] at hi; simpa using hi)]
      rw [concL_map, List.map_append] at hv
      rw [List.append_toArray, List.getElem?_toArray, concL_map, concL_map]; exact hv
  · cases hg

theorem appendExact_ok (hr : Rel φ h w) {sT xT elem : TypeId} {d : TypeDesc} {inf : TypeInfo} {z : Value} {base : Option (Nat × Nat)} {len cap m : Nat} {x v : V} {h' : Heap} {new : List V} {ts : Array TypeId} {ty : TypeId} {args : Array Value}
    (hu : P.underlying sT = some (.slice elem)) (hd : P.underlying xT = some d) (hz : isIntD d = false) (hi : P.info? elem = some inf) (hz0 : inf.zero = some z) (hzs : z.cells.size = inf.size) (hpos : 0 < inf.size)
    (hbase : (V.slice base len cap).ok φ.dom) (hx : x.ok φ.dom) (hn : lenA x = some m) (hf : firstA h inf.size m x = some new)
    (ht0 : ts[0]? = some sT) (ht1 : ts[1]? = some xT) (ha0 : args[0]? = some (conc φ (.slice base len cap))) (ha1 : args[1]? = some (conc φ x))
    (hp : appendExact h inf.size inf.bytes m new base len cap = some (v, h')) :
    ∃ φ' w', (Builtin.append_ ts ty args).run P w = .ok (conc φ' v) w' ∧ Post φ h w φ' h' w' ∧ v.ok φ'.dom := by
  obtain ⟨f1, f2⟩ := firstA_run (P := P) hr hx hf
  have hln := lenA_run (P := P) (w := w) (φ := φ) hn
  unfold appendExact at hp
  split at hp
  · rename_i hle
    have hle' := Nat.le_of_ble_eq_true hle
    split at hp
    · simp only [Option.some.injEq, Prod.mk.injEq] at hp
      obtain ⟨rfl, rfl⟩ := hp
      refine ⟨φ, w, ?_, Post.refl hr, trivial⟩
      have := run_append_in (P := P) (w := w) (w' := w) (ty := ty) hu hd hz hi hln hle' f1 (fun ad e => by cases e) (fun _ => rfl) ht0 ht1 ha0 ha1
      simpa [conc] using this
    · cases hp
    · rename_i ad
      simp only [Option.some.injEq, Prod.mk.injEq] at hp
      obtain ⟨rfl, rfl⟩ := hp
      refine ⟨φ, w, ?_, Post.refl hr, hbase⟩
      have hnil : new = [] := by
        unfold firstA at hf
        split at hf
        · simpa using hf.symm
        · split at hf
          · simpa using hf.symm
          · rename_i hne; simp at hne
        · split at hf
          · simpa using hf.symm
          · rename_i hne; simp at hne
        · split at hf
          · simpa using hf.symm
          · cases hf
        · cases hf
      subst hnil
      have := run_append_in (P := P) (w := w) (w' := w) (ty := ty) hu hd hz hi hln hle' f1 (fun ad e => rfl) (fun e => by cases e) ht0 ht1 ha0 ha1
      simpa [conc] using this
    · rename_i b o hm0
      split at hp
      · rename_i h1 hs
        simp only [Option.some.injEq, Prod.mk.injEq] at hp
        obtain ⟨rfl, rfl⟩ := hp
        obtain ⟨w', s1, s2⟩ := store_post P hr (a := (b, o + len * inf.size)) hbase f2 hs
        refine ⟨φ, w', ?_, s2, hbase⟩
        have hadd : (φ.addr (b, o)).add (len * inf.size) = φ.addr (b, o + len * inf.size) := by simp only [Phi.addr, Addr.add_none, Nat.add_assoc]
        have := run_append_in (P := P) (w := w) (w' := w') (ty := ty) hu hd hz hi hln hle' f1 (fun ad e => by
          simp only [Option.some.injEq] at e
          rw [← e, hadd]; simpa using s1) (fun e => by cases e) ht0 ht1 ha0 ha1
        simpa [conc] using this
      · cases hp
  · rename_i hle
    have hle' : ¬ len + m ≤ cap := fun e => by rw [Nat.ble_eq_true_of_le e] at hle; cases hle
    split at hp
    · rename_i hb
      have hb' := Nat.le_of_ble_eq_true hb
      have hbound : (len + m) * (inf.bytes + 1) ≤ 1099511627776 := Nat.le_trans (Nat.mul_le_mul_right _ (by omega)) hb'
      cases hfo : firstA h inf.size len (.slice base len cap) with
      | none => rw [hfo] at hp; simp [growA] at hp
      | some old =>
        rw [hfo] at hp
        have hr1 := Post.draws (w' := w.drew) hr rfl rfl rfl rfl
        obtain ⟨o1, o2⟩ := firstA_run (P := P) hr1.rel hbase hfo
        obtain ⟨n1, -⟩ := firstA_run (P := P) hr1.rel hx hf
        obtain ⟨φ', q1, q2, q3, q4⟩ := growA_post hr (z := z) (elem := elem) hpos hzs o2 f2 hp (grownCap w (len + m) cap elem) (grownCap_ge w _ _ _)
        refine ⟨φ', _, ?_, q4, q3⟩
        rw [q2]
        have hcs : ∃ ab, conc φ (.slice base len cap) = .slice ab len cap := by cases base <;> exact ⟨_, rfl⟩
        obtain ⟨ab, hab⟩ := hcs
        rw [hab] at ha0 o1
        exact run_append_new (P := P) (ty := ty) hu hd hz hi hz0 hln hle' hbound o1 n1 ht0 ht1 ha0 ha1
    · cases hp

end
end Go.Abs
