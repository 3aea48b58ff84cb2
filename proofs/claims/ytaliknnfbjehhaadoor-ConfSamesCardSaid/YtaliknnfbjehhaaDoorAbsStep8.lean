/-
  Each operation's step is the model's: ranges; length, append, copy, clear and their kin.
-/
import Derived.Test.YtaliknnfbjehhaaDoorAbsStep7
set_option linter.all false
namespace Go.Abs
open Go.RowKit

section
variable {P : Program} {φ : Phi} {h : Heap} {w : World} {n : Nat} {env : Env} {a : Act}

theorem heap_push {w : World} {o : Obj} : (w.alloc o).heap[w.heap.size]? = some o := by
  show (w.heap.push o)[w.heap.size]? = _
  simp

theorem sRange_ok (hr : Rel φ h w) (hE : EnvRel φ n env a.tmps) {o : Oper} {t : TypeId} {x : Operand} (ho : o.op = .range t x) {s : Step} (hs : sRange P t x env h = some s) :
    StepOk P φ h w ((execOp a.eval o).run P w) s := by
  unfold sRange at hs
  split at hs
  · rename_i p hp
    obtain ⟨h1, h2⟩ := evalA_conc hE hp
    obtain ⟨v, h', hv, rfl⟩ := heapS_some hs
    have hnd : ¬ φ.dom h.next := fun hd => Nat.lt_irrefl _ (hr.lt _ hd)
    have he := Ext.add hnd w.heap.size 0 0
    unfold rangeA at hv
    split at hv
    · rename_i l hu
      simp only [Heap.new, Option.some.injEq, Prod.mk.injEq] at hv
      obtain ⟨rfl, rfl⟩ := hv
      refine ⟨φ.add h.next w.heap.size 0 0, w.alloc (.stringIter (str l) 0), ?_, Post.alloc hr (.sIter l 0) _ 0 0 rfl rfl rfl rfl ⟨by rw [Phi.add_blk]; exact heap_push, by rw [Phi.add_base]⟩, .inl rfl⟩
      simp [execOp, ho, h1, conc, Instr.range, run_underlying hu, Phi.addr, Phi.add_blk, Phi.add_base]
    · rename_i k e hu
      simp only [Heap.new, Option.some.injEq, Prod.mk.injEq] at hv
      obtain ⟨rfl, rfl⟩ := hv
      refine ⟨φ.add h.next w.heap.size 0 0, w.alloc (.mapIter none 0 #[] 0), ?_, Post.alloc hr (.mIter none 0 [] 0) _ 0 0 rfl rfl rfl rfl ⟨by rw [Phi.add_blk]; exact heap_push, by rw [Phi.add_base], fun r hr => by cases hr⟩, .inl rfl⟩
      simp [execOp, ho, h1, conc, Instr.range, run_underlying hu, Phi.addr, Phi.add_blk, Phi.add_base]
    · rename_i k e r hu
      split at hv
      · rename_i es clock hg
        simp only [Heap.new, Option.some.injEq, Prod.mk.injEq] at hv
        obtain ⟨rfl, rfl⟩ := hv
        obtain ⟨E, e1, e2, e3, e4⟩ := mapBlk (P := P) hr h2 hg
        refine ⟨φ.add h.next w.heap.size 0 0, w.alloc (.mapIter (some (φ.blk r)) clock #[] clock), ?_,
          Post.alloc hr (.mIter (some r) clock [] clock) _ 0 0 rfl rfl rfl rfl ⟨by rw [Phi.add_blk, Option.map_some, he.blk r h2]; exact heap_push, by rw [Phi.add_base], fun q hq => by
            simp only [Option.some.injEq] at hq; subst hq; exact he.dom _ h2⟩, .inl rfl⟩
        simp [execOp, ho, h1, conc, Instr.range, run_underlying hu, e4, Phi.addr, Phi.add_blk, Phi.add_base]
      · cases hv
    · cases hv
  · cases hs

theorem sEntry_ok (hr : Rel φ h w) (hE : EnvRel φ n env a.tmps) {o : Oper} {x : Operand} (ho : o.op = .entry x) {s : Step} (hs : sEntry x env h = some s) :
    StepOk P φ h w ((execOp a.eval o).run P w) s := by
  unfold sEntry at hs
  split at hs
  · rename_i it hit
    obtain ⟨h1, h2⟩ := evalA_conc hE hit
    obtain ⟨v, hv, rfl⟩ := valueS_some hs
    have hop : execOp a.eval o = (do pure (.value (← Instr.entry (conc φ it)))) := by simp only [execOp, ho, h1]
    rw [hop]
    unfold entryA at hv
    split at hv
    · rename_i r
      split at hv
      · rename_i m since seen stepped hg
        split at hv
        · rename_i es clock stamp hgm hlast
          split at hv
          · rename_i e hcl hfind
            simp only [Option.some.injEq] at hv; subst hv
            obtain ⟨q1, q2, q3⟩ := hr.blocks r _ h2 hg
            have hdm : φ.dom m := q3 m rfl
            have hget : (getObj (φ.blk r)).run P w = .ok (.mapIter (some (φ.blk m)) since seen.toArray stepped) w := run_getObj q1 (by simp)
            obtain ⟨E, e1, e2, e3, e4⟩ := mapBlk (P := P) hr hdm hgm
            have hc : clock = stepped := Nat.eq_of_beq_eq_true hcl
            subst hc
            have hmem : e ∈ es := List.mem_of_find?_eq_some hfind
            have hE2 : E.find? (fun x => x.born == stamp) = some (concE φ e) := by
              rw [← Array.find?_toList, e2, List.find?_map]
              have : (fun x : V × V × Nat => (concE φ x).born == stamp) = fun e => Nat.beq e.2.2 stamp := by
                funext x; simp [concE, Nat.beq_eq_true_eq]
                exact Bool.eq_iff_iff.2 (by simp)
              simp only [Function.comp_def, this, hfind, Option.map_some]
            refine ⟨φ, w, ?_, Post.refl hr, ⟨(e3 e hmem).1.1, (e3 e hmem).1.2, trivial⟩⟩
            have hback : seen.toArray.back? = some stamp := by simp [hlast]
            simp only [conc, Phi.addr, q2, Nat.add_zero, Instr.entry, Sem.run_bind, hget, Result.andThen_ok, hback, e4, bne_self_eq_false, Bool.false_eq_true, if_false, hE2, Sem.run_pure, concL]
            rfl
          · cases hv
        · cases hv
      · cases hv
    · cases hv
  · cases hs

theorem sNext_ok (hr : Rel φ h w) (hE : EnvRel φ n env a.tmps) {o : Oper} {x : Operand} {b : Bool} (ho : o.op = .next x b) {s : Step} (hs : sNext x b env h = some s) :
    StepOk P φ h w ((execOp a.eval o).run P w) s := by
  unfold sNext at hs
  split at hs
  · rename_i it hit
    obtain ⟨h1, h2⟩ := evalA_conc hE hit
    split at hs
    · rename_i l hl
      simp only [Option.some.injEq] at hs; subst hs
      have hop : execOp a.eval o = (do pure (.value (← Instr.next (conc φ it) b o.type))) := by simp only [execOp, ho, h1]
      rw [hop]
      unfold nextA at hl
      split at hl
      · rename_i r
        split at hl
        · rename_i sl pos hg hlim
          have hlim' := Nat.le_of_ble_eq_true hlim
          obtain ⟨q1, q2⟩ := hr.blocks r _ h2 hg
          have hlv : live h r := ⟨_, hg, by simp⟩
          have hsz := hr.size r h2
          have hget : (getObj (φ.blk r)).run P w = .ok (.stringIter (str sl) pos) w := run_getObj q1 (by simp)
          rw [atL_eq] at hl
          split at hl
          · rename_i c hc
            split at hl
            · rename_i hlt
              simp only [Option.some.injEq] at hl; subst hl
              have hpos : pos < (str sl).size := by rw [str_size]; exact (List.getElem?_eq_some_iff.1 hc).1
              have hcc : (str sl)[pos]'hpos = c := (List.getElem?_eq_some_iff.1 hc).2
              have hd := decode_ascii (str sl) pos hpos (by rw [hcc]; simp only [Nat.blt, Nat.ble_eq] at hlt; omega)
              rw [hcc] at hd
              refine ⟨_, _, φ, setObjW w (φ.blk r) (.stringIter (str sl) (pos + 1)), List.mem_singleton.2 rfl, ?_, Post.setObj hr h2 hlim' hlv ⟨heap_setObjW hsz, q2⟩, ⟨trivial, trivial, trivial, trivial⟩⟩
              have hset : (setObj (φ.blk r) (.stringIter (str sl) (pos + 1))).run P w = .ok () (setObjW w (φ.blk r) (.stringIter (str sl) (pos + 1))) := run_setObj q1 (by simp)
              simp only [conc, Phi.addr, q2, Nat.add_zero, Instr.next, Sem.run_bind, hget, Result.andThen_ok, hpos, if_true, hd, hset, Sem.run_pure, goInt, concL]
            · cases hl
          · rename_i hc
            simp only [Option.some.injEq] at hl; subst hl
            refine ⟨_, _, φ, w, List.mem_singleton.2 rfl, ?_, Post.refl hr, ⟨trivial, trivial⟩⟩
            have hpos : ¬ pos < (str sl).size := by rw [str_size]; have := List.getElem?_eq_none_iff.1 hc; omega
            simp only [conc, Phi.addr, q2, Nat.add_zero, Instr.next, Sem.run_bind, hget, Result.andThen_ok, hpos, if_false, Sem.run_pure, concL]
        · cases hl
      · rename_i r
        split at hl
        · rename_i since seen stepped hg hlim
          obtain ⟨q1, q2, -⟩ := hr.blocks r _ h2 hg
          have hget : (getObj (φ.blk r)).run P w = .ok (.mapIter none since seen.toArray stepped) w := run_getObj q1 (by simp)
          simp only [Option.some.injEq] at hl; subst hl
          refine ⟨_, _, φ, w, List.mem_singleton.2 rfl, ?_, Post.refl hr, ⟨trivial, trivial⟩⟩
          simp only [conc, Phi.addr, q2, Nat.add_zero, Instr.next, Sem.run_bind, hget, Result.andThen_ok, Sem.run_pure, concL]
        · rename_i m since seen stepped hg hlim
          have hlim' := Nat.le_of_ble_eq_true hlim
          obtain ⟨q1, q2, q3⟩ := hr.blocks r _ h2 hg
          have hdm : φ.dom m := q3 m rfl
          have hlv : live h r := ⟨_, hg, by simp⟩
          have hsz := hr.size r h2
          have hget : (getObj (φ.blk r)).run P w = .ok (.mapIter (some (φ.blk m)) since seen.toArray stepped) w := run_getObj q1 (by simp)
          split at hl
          · rename_i es clock hgm
            obtain ⟨E, e1, e2, e3, e4⟩ := mapBlk (P := P) hr hdm hgm
            split at hl
            · rename_i hcl
              rw [Bool.and_eq_true] at hcl
              have hc1 : clock = since := Nat.eq_of_beq_eq_true hcl.1
              have hc2 : stepped = since := Nat.eq_of_beq_eq_true hcl.2
              subst hc1; subst hc2
              have hguard : (!seen.toArray.isEmpty && !E.isEmpty && E.all (fun e => decide (e.born ≥ stepped))) = false := by
                cases hes : es with
                | nil =>
                  have : E = #[] := by
                    have := e2; rw [hes] at this
                    exact Array.toList_eq_nil_iff.1 this
                  simp [this]
                | cons e es' =>
                  have hmem : concE φ e ∈ E := by rw [← Array.mem_toList_iff, e2, hes]; simp
                  have hb := (e3 e (by rw [hes]; simp)).2
                  have : E.all (fun e => decide (e.born ≥ stepped)) = false := by
                    rw [Bool.eq_false_iff]
                    intro hall
                    have hge : (concE φ e).born ≥ stepped := of_decide_eq_true (Array.all_eq_true_iff_forall_mem.1 hall _ hmem)
                    exact absurd hb (Nat.not_lt.2 hge)
                  simp [this]
              have hleft : (E.filter fun e => !seen.toArray.contains e.born) = ((es.filter fun e => !seen.contains e.2.2).map (concE φ)).toArray := by
                apply Array.ext'
                rw [Array.toList_filter, e2, List.filter_map]
                simp [Function.comp_def, concE]
                try rfl
              have hold : ((E.filter fun e => !seen.toArray.contains e.born).filter fun e => decide (e.born < stepped)) = (E.filter fun e => !seen.toArray.contains e.born) := by
                rw [hleft]
                apply Array.ext'
                rw [Array.toList_filter, List.filter_eq_self]
                intro e he
                obtain ⟨x, hx, rfl⟩ := List.mem_map.1 he
                exact decide_eq_true (e3 x (List.mem_filter.1 hx).1).2
              have hnew : ((E.filter fun e => !seen.toArray.contains e.born).filter fun e => decide (e.born ≥ stepped)) = #[] := by
                rw [hleft]
                apply Array.ext'
                rw [Array.toList_filter]
                apply List.filter_eq_nil_iff.2
                intro e he
                obtain ⟨x, hx, rfl⟩ := List.mem_map.1 he
                exact fun hc => absurd (e3 x (List.mem_filter.1 hx).1).2 (Nat.not_lt.2 (of_decide_eq_true hc))
              obtain ⟨L, hL⟩ : ∃ L, L = es.filter fun e => !seen.contains e.2.2 := ⟨_, rfl⟩
              rw [← hL] at hleft
              split at hl
              · rename_i hnil
                simp only [Option.some.injEq] at hl; subst hl
                rw [hL, hnil] at hleft
                refine ⟨_, _, φ, w, List.mem_singleton.2 rfl, ?_, Post.refl hr, ⟨trivial, trivial⟩⟩
                simp only [conc, Phi.addr, q2, Nat.add_zero, Instr.next, Sem.run_bind, hget, Result.andThen_ok, e4, hguard, Bool.false_eq_true, if_false, Sem.run_pure, hold, hnew, hleft, List.map_nil, concL]
                simp [Question.forced]
              · rename_i hne
                simp only [Option.some.injEq] at hl; subst hl
                -- the choice
                have hLne : L ≠ [] := fun e => hne (hL ▸ e)
                have hLpos : 0 < L.length := List.length_pos_iff.2 hLne
                obtain ⟨j, w1, hj, hch, hw1⟩ : ∃ j w1, j < L.length ∧ (choose (.mapNext L.length)).run P w = .ok j w1 ∧ (w1 = w ∨ w1 = { w with drawn := w.drawn + 1 }) := by
                  rw [run_choose]
                  by_cases hf : L.length ≤ 1
                  · exact ⟨0, w, hLpos, by simp [Question.forced, hf], .inl rfl⟩
                  · exact ⟨w.tape w.drawn (.mapNext L.length) % L.length, _, Nat.mod_lt _ hLpos, by simp [Question.forced, hf, Question.cut], .inr rfl⟩
                have hp1 : Post φ h w φ h w1 := by
                  rcases hw1 with rfl | rfl
                  · exact Post.refl hr
                  · exact Post.draws hr rfl rfl rfl rfl
                have hh1 : w1.heap = w.heap := by rcases hw1 with rfl | rfl <;> rfl
                obtain ⟨e, he⟩ : ∃ e, L[j]? = some e := ⟨_, List.getElem?_eq_getElem hj⟩
                have hemem : e ∈ L := List.mem_of_getElem? he
                have hees : e ∈ es := by rw [hL] at hemem; exact (List.mem_filter.1 hemem).1
                refine ⟨.tuple [.bool true, e.1, e.2.1], h.set r (.mIter (some m) stepped (app seen [e.2.2]) stepped), φ, setObjW w1 (φ.blk r) (.mapIter (some (φ.blk m)) stepped (seen.toArray.push e.2.2) stepped), ?_, ?_, ?_,
                  ⟨trivial, (e3 e hees).1.1, (e3 e hees).1.2, trivial⟩⟩
                · rw [← hL]; exact List.mem_map.2 ⟨e, hemem, rfl⟩
                · have hset : (setObj (φ.blk r) (.mapIter (some (φ.blk m)) stepped (seen.toArray.push e.2.2) stepped)).run P w1 = .ok () (setObjW w1 (φ.blk r) (.mapIter (some (φ.blk m)) stepped (seen.toArray.push e.2.2) stepped)) :=
                    run_setObj (by rw [hh1]; exact q1) (by simp)
                  have hcand : ((if ((L.map (concE φ)).toArray).isEmpty then #[none] else #[] : Array (Option MapEntry)) ++ ((L.map (concE φ)).toArray ++ #[]).map some) = (L.map fun x => some (concE φ x)).toArray := by
                    have : ((L.map (concE φ)).toArray).isEmpty = false := by
                      cases L with
                      | nil => exact absurd rfl hLne
                      | cons => rfl
                    rw [this]; simp
                  have hsize : ((L.map fun x => some (concE φ x)).toArray).size = L.length := by simp
                  rw [hleft] at hold hnew
                  have hgetj : ((L.map fun x => some (concE φ x)).toArray)[j]? = some (some (concE φ e)) := by simp [he]
                  simp only [conc, Phi.addr, q2, Nat.add_zero, Instr.next, Sem.run_bind, hget, Result.andThen_ok, e4, hguard, Bool.false_eq_true, if_false, Sem.run_pure, hold, hnew, hleft, hcand, hsize, hch, hgetj, concL]
                  rw [show (concE φ e).born = e.2.2 from rfl, hset]
                  rfl
                · refine hp1.trans (Post.setObj (hp1.rel) h2 hlim' hlv ⟨heap_setObjW (by rw [hh1]; exact hsz) |>.trans ?_, q2, fun q hq => ?_⟩)
                  · simp [app_eq]
                  · simp only [Option.some.injEq] at hq; subst hq; exact hdm
            · cases hl
          · cases hl
        · cases hl
      · cases hl
    · cases hs
  · cases hs

end
end Go.Abs
