/-
  Each operation's step is the model's: append to a row of unknown room; the other builtins.
-/
import Derived.Test.YtaliknnfbjehhaaDoorAbsStep9
set_option linter.all false
namespace Go.Abs
open Go.RowKit

section
variable {P : Program} {φ : Phi} {h : Heap} {w : World} {n : Nat} {env : Env} {a : Act}

/-- A row goes on under a new name, with new cells behind. -/
theorem Post.takeover (hr : Rel φ h w) {b off k : Nat} {o : Bool} {cs new : List V} (hd : φ.dom b) (hg : h.get b = some (.row o cs)) (hl : h.lim ≤ b) (hk : off + k ≤ cs.length) (hok : okL φ.dom new) (hcell : ∀ v ∈ new, v.isCell = true)
    (hfit : φ.base b + (off + k) + new.length ≤ φ.tot b) :
    ∃ w', (storeCells (φ.addr (b, off + k)) (concL φ new)).run P w = .ok () w' ∧ Post φ h w (φ.add h.next (φ.blk b) (φ.base b + off) (φ.tot b)) ((h.set b .dead).new (.row true (app (takeL (dropL cs off) k) new))).2 w' := by
  obtain ⟨C, t, lo, hi, h1, h2, h3, h4, h5, h6⟩ := hr.blocks b _ hd hg
  have hlen : (concL φ new).length = new.length := by rw [concL_map, List.length_map]
  have hl0 := hr.lims
  have hlv : live h b := ⟨_, hg, by simp⟩
  have hnd : ¬ φ.dom h.next := fun hd => Nat.lt_irrefl _ (hr.lt _ hd)
  have hbn : b ≠ h.next := fun e => hnd (e ▸ hd)
  have he := Ext.add hnd (φ.blk b) (φ.base b + off) (φ.tot b)
  have hk2 := setCells_keeps (φ.blk b) (concL φ new) (φ.base b + (off + k)) w
  obtain ⟨C', c1, c2, c3⟩ := setCells_same (φ.blk b) t (lo, hi) (concL φ new) (φ.base b + (off + k)) w C h1 (by rw [hlen, h3]; exact hfit)
  refine ⟨w.setCells (φ.blk b) (φ.base b + (off + k)) (concL φ new), ?_, ?_⟩
  · have := run_storeCells_cells (P := P) (φ.blk b) (φ.base b + (off + k)) (concL φ new) 0 w (fun j hj => ?_) (fun j hj => ?_) (fun v hv => ?_)
    · exact this
    · rw [hlen] at hj
      rw [cell_of_cells h1, Array.getElem?_eq_getElem (by omega)]; rfl
    · rw [hlen] at hj
      simp only [World.frozen?, h1]
      by_cases hlo : lo < hi
      · have := h2 (by have := hr.fz; omega) hlo
        have : ¬ lo ≤ φ.base b + (off + k) + 0 + j := by omega
        rw [Bool.and_eq_false_iff, decide_eq_false_iff_not]; exact .inl this
      · rw [Bool.and_eq_false_iff, decide_eq_false_iff_not, decide_eq_false_iff_not]; omega
    · rw [concL_map] at hv
      obtain ⟨u, hu, rfl⟩ := List.mem_map.1 hv
      exact conc_cell (hcell u hu)
  · have hget : ∀ c, ((h.set b .dead).new (.row true (app (takeL (dropL cs off) k) new))).2.get c = if c = h.next then some (.row true (app (takeL (dropL cs off) k) new)) else if c = b then some .dead else h.get c := by
      intro c
      rw [Heap.get_new (h.set b .dead) (show h.lim0 ≤ h.next by omega)]
      show (if c = h.next then _ else _) = _
      rw [Heap.get_set h (by omega)]
    have hlive : ∀ c, live ((h.set b .dead).new (.row true (app (takeL (dropL cs off) k) new))).2 c → c ≠ h.next → c ≠ b ∧ live h c := fun c ⟨y, hy, hn⟩ hc => by
      rw [hget, if_neg hc] at hy
      by_cases e : c = b
      · rw [if_pos e] at hy; simp only [Option.some.injEq] at hy; exact absurd hy.symm hn
      · rw [if_neg e] at hy; exact ⟨e, y, hy, hn⟩
    refine ⟨⟨hr.lt, he, ⟨fun c x hc hx => ?_, fun c hc => ?_, fun c hc => ?_, fun c c' hc hc' g1 g2 g3 g4 => ?_, ⟨hl0.1, Nat.le_succ_of_le hl0.2⟩, hr.fz⟩, ⟨hk2.1, hk2.2.1, hk2.2.2.1, by rw [hk2.2.2.2]; exact Nat.le_refl _, fun q _ hb => setCells_other _ _ _ _ _ (fun e => hb b hd hl hlv e.symm)⟩, fun c hc hn => ?_,
      (Eff.set h hl0 hl hlv .dead).trans (Eff.new (h.set b .dead) hl0 _)⟩, fun b h1 h2 => .inl (by have h3 : b < h.next + 1 := h2; omega)⟩
    · rw [hget] at hx
      by_cases e : c = h.next
      · subst e
        rw [if_pos rfl] at hx
        simp only [Option.some.injEq] at hx; subst hx
        rw [app_eq, takeL_eq, dropL_eq]
        have hlk : ((cs.drop off).take k).length = k := by simp only [List.length_take, List.length_drop]; omega
        refine ⟨C', t, lo, hi, by rw [Phi.add_blk]; exact c1, by rw [c2]; exact fun _ => h2 (by have := hr.fz; omega), by rw [c2, h3, Phi.add_tot], by rw [c2, Phi.add_base, List.length_append, hlk, h3]; omega, fun i v hv => ?_, okL_iff.2 fun v hv => ?_⟩
        · rw [Phi.add_base, c3, hlen]
          have hvok : v.ok φ.dom := by
            rcases List.mem_append.1 (List.mem_of_getElem? hv) with hm | hm
            · exact okL_iff.1 h6 v (List.mem_of_mem_drop (List.mem_of_mem_take hm))
            · exact okL_iff.1 hok v hm
          rw [conc_ext he v hvok]
          by_cases hik : i < k
          · rw [List.getElem?_append_left (by omega), List.getElem?_take_of_lt hik, List.getElem?_drop] at hv
            rw [if_neg (by omega), show φ.base b + off + i = φ.base b + (off + i) by omega]
            exact h5 _ v hv
          · rw [List.getElem?_append_right (by omega), hlk] at hv
            have hlt := (List.getElem?_eq_some_iff.1 hv).1
            rw [if_pos (by omega), show φ.base b + off + i - (φ.base b + (off + k)) = i - k by omega, concL_get, hv]; rfl
        · rcases List.mem_append.1 hv with hm | hm
          · exact V.ok_mono he.dom v (okL_iff.1 h6 v (List.mem_of_mem_drop (List.mem_of_mem_take hm)))
          · exact V.ok_mono he.dom v (okL_iff.1 hok v hm)
      · rw [if_neg e] at hx
        by_cases e2 : c = b
        · rw [if_pos e2] at hx; simp only [Option.some.injEq] at hx; subst hx; exact trivial
        · rw [if_neg e2] at hx
          have hcd : φ.dom c := hc.resolve_left e
          by_cases hxd : x = .dead
          · subst hxd; exact trivial
          · exact (hr.blocks c x hcd hx).keep he hcd (setCells_other _ _ _ _ _ (fun q => e2 (hr.inj b c hd hcd (by omega) hlv ⟨x, hx, hxd⟩ q.symm).symm))
    · show c < h.next + 1
      rcases hc with e | hc
      · omega
      · have := hr.lt c hc; omega
    · rw [hk2.2.2.2]
      by_cases e : c = h.next
      · subst e; rw [Phi.add_blk]; exact hr.size b hd
      · have hcd : φ.dom c := hc.resolve_left e
        rw [he.blk c hcd]; exact hr.size c hcd
    · by_cases e : c = h.next <;> by_cases e' : c' = h.next
      · rw [e, e']
      · have hcd' : φ.dom c' := hc'.resolve_left e'
        obtain ⟨q1, q2⟩ := hlive c' g3 e'
        subst e
        rw [Phi.add_blk, he.blk c' hcd'] at g4
        exact absurd (hr.inj b c' hd hcd' (by omega) hlv q2 g4).symm q1
      · have hcd : φ.dom c := hc.resolve_left e
        obtain ⟨q1, q2⟩ := hlive c g2 e
        subst e'
        rw [Phi.add_blk, he.blk c hcd] at g4
        exact absurd (hr.inj c b hcd hd g1 q2 hlv g4) q1
      · have hcd : φ.dom c := hc.resolve_left e
        have hcd' : φ.dom c' := hc'.resolve_left e'
        rw [he.blk c hcd, he.blk c' hcd'] at g4
        exact hr.inj c c' hcd hcd' g1 (hlive c g2 e).2 (hlive c' g3 e').2 g4
    · have e : c = h.next := hc.resolve_right hn
      subst e
      exact ⟨Nat.le_refl _, fun _ => .inr ⟨b, hd, hl, hlv, by rw [Phi.add_blk]⟩⟩

theorem Post.kill (hr : Rel φ h w) {b : Nat} (hl : h.lim ≤ b) (hv : live h b) : Post φ h w φ (h.set b .dead) w := by
  have hl0 := hr.lims
  have tr : ∀ c, live (h.set b .dead) c → live h c := fun c ⟨y, hy, hn⟩ => by
    rw [Heap.get_set h (by omega)] at hy
    by_cases e : c = b
    · subst e; exact hv
    · rw [if_neg e] at hy; exact ⟨y, hy, hn⟩
  refine ⟨⟨hr.lt, Ext.refl φ, ⟨fun c x hc hx => ?_, hr.lt, hr.size, fun c c' hc hc' g1 g2 g3 g4 => hr.inj c c' hc hc' g1 (tr c g2) (tr c' g3) g4, hl0, hr.fz⟩, Fr.refl _ _ _, fun _ hb hn => absurd hb hn, Eff.set h hl0 hl hv _⟩, fun b h1 h2 => absurd (Nat.lt_of_lt_of_le h2 h1) (Nat.lt_irrefl _)⟩
  rw [Heap.get_set h (by omega)] at hx
  by_cases e : c = b
  · rw [if_pos e] at hx; simp only [Option.some.injEq] at hx; subst hx; exact trivial
  · rw [if_neg e] at hx; exact hr.blocks c x hc hx

theorem appendOpen_ok (hr : Rel φ h w) {sT xT elem : TypeId} {d : TypeDesc} {inf : TypeInfo} {z : Value} {b off len e' m : Nat} {x v : V} {h' : Heap} {new : List V} {ts : Array TypeId} {ty : TypeId} {args : Array Value}
    (hu : P.underlying sT = some (.slice elem)) (hd : P.underlying xT = some d) (hz : isIntD d = false) (hi : P.info? elem = some inf) (hz0 : inf.zero = some z) (hzs : z.cells.size = inf.size) (hpos : 0 < inf.size)
    (hb : φ.dom b) (hx : x.ok φ.dom) (hn : lenA x = some m) (hf : firstA h inf.size m x = some new)
    (ht0 : ts[0]? = some sT) (ht1 : ts[1]? = some xT) (ha0 : args[0]? = some (conc φ (.oslice b off len e'))) (ha1 : args[1]? = some (conc φ x))
    (hp : appendOpen h inf.size inf.bytes m new b off len e' = some (v, h')) :
    ∃ φ' w', (Builtin.append_ ts ty args).run P w = .ok (conc φ' v) w' ∧ Post φ h w φ' h' w' ∧ v.ok φ'.dom := by
  obtain ⟨f1, f2⟩ := firstA_run (P := P) hr hx hf
  have hln := lenA_run (P := P) (w := w) (φ := φ) hn
  unfold appendOpen at hp
  split at hp
  · rename_i o cs hrow hee hlim
    have hee' := Nat.eq_of_beq_eq_true hee
    have hlim' := Nat.le_of_ble_eq_true hlim
    have hget := Heap.row_some hrow
    have hlv : live h b := ⟨_, hget, by simp⟩
    obtain ⟨C, t, lo, hi', h1, h2, h3, h4, h5, h6⟩ := hr.blocks b _ hb hget
    subst hee'
    obtain ⟨K, hK⟩ : ∃ K, K = (φ.tot b - (φ.base b + off)) / inf.size := ⟨_, rfl⟩
    have hcs0 : conc φ (.oslice b off len inf.size) = .slice (some (φ.addr (b, off))) len K := by simp only [conc, hK]
    rw [hcs0] at ha0
    rw [lenL_eq] at hp
    have hadd : (φ.addr (b, off)).add (len * inf.size) = φ.addr (b, off + len * inf.size) := by simp only [Phi.addr, Addr.add_none, Nat.add_assoc]
    split at hp
    · rename_i hle1
      have hle1' := Nat.le_of_ble_eq_true hle1
      split at hp
      · rename_i hle2
        have hle2' := Nat.le_of_ble_eq_true hle2
        have hfit : len + m ≤ K := by
          rw [hK, Nat.le_div_iff_mul_le hpos]; omega
        split at hp
        · simp only [Option.some.injEq, Prod.mk.injEq] at hp
          obtain ⟨rfl, rfl⟩ := hp
          have hnil : new = [] := by
            unfold firstA at hf
            split at hf
            · simpa using hf.symm
            · split at hf
              · simpa using hf.symm
              · rename_i hne; simp at hne
            · split at hf
              · simpa using hf.symm
              · rename_i hne; simp at hne
            · split at hf
              · simpa using hf.symm
              · cases hf
            · cases hf
          subst hnil
          have := run_append_in (P := P) (w := w) (w' := w) (ty := ty) hu hd hz hi hln hfit f1 (fun ad e => rfl) (fun e => by cases e) ht0 ht1 ha0 ha1
          exact ⟨φ, w, by rw [hcs0]; exact this, Post.refl hr, hb⟩
        · rename_i hm0
          split at hp
          · rename_i h1' hs
            simp only [Option.some.injEq, Prod.mk.injEq] at hp
            obtain ⟨rfl, rfl⟩ := hp
            obtain ⟨w', s1, s2⟩ := store_post P hr (a := (b, off + len * inf.size)) hb f2 hs
            have := run_append_in (P := P) (w := w) (w' := w') (ty := ty) hu hd hz hi hln hfit f1 (fun ad e => by
              simp only [Option.some.injEq] at e
              rw [← e, hadd]; simpa using s1) (fun e => by cases e) ht0 ht1 ha0 ha1
            refine ⟨φ, w', ?_, s2, hb⟩
            rw [this]; simp only [conc, hK]
          · cases hp
      · rename_i hle2
        have hle2' : ¬ off + (len + m) * inf.size ≤ cs.length := fun e => by rw [Nat.ble_eq_true_of_le e] at hle2; cases hle2
        split at hp
        · rename_i hbnd
          have hbnd' := Nat.le_of_ble_eq_true hbnd
          have hbound : (len + m) * (inf.bytes + 1) ≤ 1099511627776 := Nat.le_trans (Nat.mul_le_mul_right _ (by omega)) hbnd'
          by_cases hfit : len + m ≤ K
          · -- in place, under a new name
            unfold growA at hp
            simp only [lenL_eq] at hp
            split at hp
            · rename_i hl1 hl2 hc
              have hl2' := Nat.eq_of_beq_eq_true hl2
              rw [Bool.and_eq_true] at hc
              simp only [Option.some.injEq, Prod.mk.injEq] at hp
              obtain ⟨rfl, rfl⟩ := hp
              have hfit2 : φ.base b + (off + len * inf.size) + new.length ≤ φ.tot b := by
                rw [hK, Nat.le_div_iff_mul_le hpos] at hfit
                rw [hl2']
                rw [Nat.add_mul] at hfit; omega
              obtain ⟨w', s1, s2⟩ := Post.takeover (P := P) hr hb hget hlim' hle1' f2 (allCells_iff.1 hc.2) hfit2
              refine ⟨_, w', ?_, s2, .inl rfl⟩
              have := run_append_in (P := P) (w := w) (w' := w') (ty := ty) hu hd hz hi hln hfit f1 (fun ad e => by
                simp only [Option.some.injEq] at e
                rw [← e, hadd]; simpa using s1) (fun e => by cases e) ht0 ht1 ha0 ha1
              rw [this]
              show _ = Result.ok (conc _ (.oslice h.next 0 (len + m) inf.size)) w'
              simp only [conc, Phi.addr, Phi.add_blk, Phi.add_base, Phi.add_tot, Nat.add_zero, hK]
            · cases hp
          · -- a new row
            have hk := Post.kill hr hlim' hlv
            have hokold : okL φ.dom (takeL (dropL cs off) (len * inf.size)) := by
              rw [takeL_eq, dropL_eq]
              exact okL_iff.2 fun v hv => okL_iff.1 h6 v (List.mem_of_mem_drop (List.mem_of_mem_take hv))
            obtain ⟨φ', q1, q2, q3, q4⟩ := growA_post hk.rel (z := z) (elem := elem) hpos hzs hokold f2 hp (grownCap w (len + m) K elem) (grownCap_ge w _ _ _)
            have hr1 := Post.draws (w' := w.drew) hr rfl rfl rfl rfl
            have hload : h.load (b, off) (len * inf.size) = some (takeL (dropL cs off) (len * inf.size)) := by
              unfold Heap.load
              rw [hrow]
              simp only [takeAt, lenL_eq]
              rw [Nat.ble_eq_true_of_le hle1']
            obtain ⟨o1, -, -⟩ := run_load_cells P hr1.rel (a := (b, off)) hb hload
            obtain ⟨n1, -⟩ := firstA_run (P := P) hr1.rel hx hf
            refine ⟨φ', _, ?_, hk.trans q4, q3⟩
            rw [q2]
            exact run_append_new (P := P) (ty := ty) hu hd hz hi hz0 hln hfit hbound (by simp only [Builtin.firstCells]; exact o1) n1 ht0 ht1 ha0 ha1
        · cases hp
    · cases hp
  · cases hp

theorem appendA_ok (hr : Rel φ h w) {sT xT : TypeId} {s x v : V} {h' : Heap} {ts : Array TypeId} {ty : TypeId} {args : Array Value} (hs : s.ok φ.dom) (hx : x.ok φ.dom)
    (ht0 : ts[0]? = some sT) (ht1 : ts[1]? = some xT) (ha0 : args[0]? = some (conc φ s)) (ha1 : args[1]? = some (conc φ x)) (hp : appendA P h sT xT s x = some (v, h')) :
    ∃ φ' w', (Builtin.append_ ts ty args).run P w = .ok (conc φ' v) w' ∧ Post φ h w φ' h' w' ∧ v.ok φ'.dom := by
  unfold appendA at hp
  split at hp
  · rename_i elem d m he hd hn
    have hu := elem_under he
    split at hp
    · rename_i e bytes z hsz hby hz0
      obtain ⟨inf, g1, g2⟩ := size_info hsz
      obtain ⟨inf', g1', g2'⟩ := bytes_info hby
      obtain ⟨inf'', u0, y1, y2, y3, y4⟩ := info_of_zero hz0
      have e1 : inf = inf' := by rw [g1] at g1'; simpa using g1'
      have e2 : inf = inf'' := by rw [g1] at y1; simpa using y1
      subst e1; subst e2
      split at hp
      · rename_i new hf hzl hint
        rw [lenL_eq] at hzl
        have hzl' := Nat.eq_of_beq_eq_true hzl
        have hzs : u0.cells.size = inf.size := by
          have := size_of_toList (φ := φ) (v := u0.cells) (l := z.cells) (by rw [← y3 φ]; exact cells_conc φ z)
          rw [this, hzl', g2]
        have g3 : inf.size = e + 1 := g2
        rw [← g3] at hf hp
        rw [← g2'] at hp
        split at hp
        · exact appendExact_ok hr hu hd hint g1 y2 hzs (by omega) hs hx hn hf ht0 ht1 ha0 ha1 hp
        · exact appendOpen_ok hr hu hd hint g1 y2 hzs (by omega) hs hx hn hf ht0 ht1 ha0 ha1 hp
        · cases hp
      · cases hp
    · cases hp
  · cases hp

end
end Go.Abs
