/-
  How the evaluator's heaps stand to the model's worlds: blocks, new blocks, loads and stores.
-/
import Derived.Test.YtaliknnfbjehhaaDoorAbsRel
import Derived.Laws.IdiomCopy
import Derived.Laws.Cells
import Derived.Laws.NewFold
import Derived.Deep.Draws
set_option linter.all false
namespace Go.Abs
open Go.RowKit

def concE (φ : Phi) (e : V × V × Nat) : MapEntry := { key := conc φ e.1, val := conc φ e.2.1, born := e.2.2 }
def okE (d : Nat → Prop) (e : V × V × Nat) : Prop := e.1.ok d ∧ e.2.1.ok d

/-- A block as the world has it. -/
def BlkRel (φ : Phi) (w : World) (b : Nat) : Blk → Prop
  | .row _ cells => ∃ (C : Array Value) (t : TypeId) (lo hi : Nat), w.heap[φ.blk b]? = some (.cells C t (lo, hi)) ∧ (φ.fz ≤ b → lo < hi → C.size ≤ lo) ∧ C.size = φ.tot b ∧
      φ.base b + cells.length ≤ C.size ∧ (∀ i v, cells[i]? = some v → C[φ.base b + i]? = some (conc φ v)) ∧ okL φ.dom cells
  | .map es clock => ∃ E : Array MapEntry, w.heap[φ.blk b]? = some (.map E clock) ∧ E.toList = es.map (concE φ) ∧ ∀ e ∈ es, okE φ.dom e ∧ e.2.2 < clock
  | .sIter s pos => w.heap[φ.blk b]? = some (.stringIter (str s) pos) ∧ φ.base b = 0
  | .mIter m since seen stepped => w.heap[φ.blk b]? = some (.mapIter (m.map φ.blk) since seen.toArray stepped) ∧ φ.base b = 0 ∧ (∀ r, m = some r → φ.dom r)
  | .dead => True

def live (h : Heap) (b : Nat) : Prop := ∃ x, h.get b = some x ∧ x ≠ .dead

structure Rel (φ : Phi) (h : Heap) (w : World) : Prop where
  blocks : ∀ b x, φ.dom b → h.get b = some x → BlkRel φ w b x
  lt : ∀ b, φ.dom b → b < h.next
  size : ∀ b, φ.dom b → φ.blk b < w.heap.size
  inj : ∀ b b', φ.dom b → φ.dom b' → h.lim0 ≤ b → live h b → live h b' → φ.blk b = φ.blk b' → b = b'
  lims : h.lim0 ≤ h.lim ∧ h.lim ≤ h.next
  fz : φ.fz ≤ h.lim0

/-- What the evaluator's step has done to its heap: nothing below the limit. -/
structure Eff (h h' : Heap) : Prop where
  ro : h'.ro = h.ro
  lim0 : h'.lim0 = h.lim0
  lim : h'.lim = h.lim
  next : h.next ≤ h'.next
  get : ∀ b, b < h.lim → h'.get b = h.get b
  dead : ∀ b, b < h.next → live h' b → live h b

theorem Eff.refl (h : Heap) : Eff h h := ⟨rfl, rfl, rfl, Nat.le_refl _, fun _ _ => rfl, fun _ _ k => k⟩
theorem Eff.trans {a b c : Heap} (h : Eff a b) (k : Eff b c) : Eff a c :=
  ⟨k.ro.trans h.ro, k.lim0.trans h.lim0, k.lim.trans h.lim, Nat.le_trans h.next k.next, fun x hx => (k.get x (by rw [h.lim]; exact hx)).trans (h.get x hx),
    fun x hx hl => h.dead x hx (k.dead x (Nat.lt_of_lt_of_le hx h.next) hl)⟩

/-- What the step has done to the world: nothing but to blocks that may be written, and new ones. -/
structure Fr (φ : Phi) (h : Heap) (w w' : World) : Prop where
  os : w'.os = w.os
  tape : w'.tape = w.tape
  output : w'.output = w.output
  size : w.heap.size ≤ w'.heap.size
  block : ∀ k, k < w.heap.size → (∀ b, φ.dom b → h.lim ≤ b → live h b → φ.blk b ≠ k) → w'.heap[k]? = w.heap[k]?

theorem Fr.refl (φ : Phi) (h : Heap) (w : World) : Fr φ h w w := ⟨rfl, rfl, rfl, Nat.le_refl _, fun _ _ _ => rfl⟩

/-- New names lie in new blocks, or in those that were given up for them. -/
def News (φ : Phi) (h : Heap) (w : World) (φ' : Phi) (h' : Heap) : Prop :=
  ∀ b, φ'.dom b → ¬ φ.dom b → h.next ≤ b ∧ (live h' b → w.heap.size ≤ φ'.blk b ∨ ∃ b0, φ.dom b0 ∧ h.lim ≤ b0 ∧ live h b0 ∧ φ'.blk b = φ.blk b0)

structure Post0 (φ : Phi) (h : Heap) (w : World) (φ' : Phi) (h' : Heap) (w' : World) : Prop where
  pre : ∀ b, φ.dom b → b < h.next
  ext : Ext φ φ'
  rel : Rel φ' h' w'
  fr : Fr φ h w w'
  news : News φ h w φ' h'
  eff : Eff h h'

/-- ... and each new name is known. -/
structure Post (φ : Phi) (h : Heap) (w : World) (φ' : Phi) (h' : Heap) (w' : World) : Prop extends Post0 φ h w φ' h' w' where
  all : ∀ b, h.next ≤ b → b < h'.next → φ'.dom b

theorem Post.refl {φ : Phi} {h : Heap} {w : World} (hr : Rel φ h w) : Post φ h w φ h w :=
  ⟨⟨hr.lt, Ext.refl φ, hr, Fr.refl φ h w, fun _ hb hn => absurd hb hn, Eff.refl h⟩, fun b h1 h2 => by omega⟩

theorem Post0.trans {φ φ1 φ2 : Phi} {h h1 h2 : Heap} {w w1 w2 : World} (p : Post0 φ h w φ1 h1 w1) (q : Post0 φ1 h1 w1 φ2 h2 w2) : Post0 φ h w φ2 h2 w2 where
  pre := p.pre
  ext := p.ext.trans q.ext
  rel := q.rel
  eff := p.eff.trans q.eff
  fr := ⟨q.fr.os.trans p.fr.os, q.fr.tape.trans p.fr.tape, q.fr.output.trans p.fr.output, Nat.le_trans p.fr.size q.fr.size, fun k hk hb => by
    refine (q.fr.block k (Nat.lt_of_lt_of_le hk p.fr.size) (fun b hd hl hv he => ?_)).trans (p.fr.block k hk hb)
    rw [p.eff.lim] at hl
    by_cases hdb : φ.dom b
    · exact hb b hdb hl (p.eff.dead b (p.pre b hdb) hv) ((p.ext.blk b hdb).symm.trans he)
    · rcases (p.news b hd hdb).2 hv with hs | ⟨b0, h0, h1, h2, h3⟩
      · omega
      · exact hb b0 h0 h1 h2 (h3.symm.trans he)⟩
  news := fun b hb hn => by
    by_cases hd : φ1.dom b
    · have hp := p.news b hd hn
      refine ⟨hp.1, fun hv => ?_⟩
      rw [q.ext.blk b hd]
      have hv1 : live h1 b := q.eff.dead b (p.rel.lt b hd) hv
      exact hp.2 hv1
    · have hq := q.news b hb hd
      refine ⟨Nat.le_trans p.eff.next hq.1, fun hv => ?_⟩
      rcases hq.2 hv with hs | ⟨b0, h0, h1, h2, h3⟩
      · exact .inl (Nat.le_trans p.fr.size hs)
      · rw [p.eff.lim] at h1
        by_cases hdb : φ.dom b0
        · exact .inr ⟨b0, hdb, h1, p.eff.dead b0 (p.pre b0 hdb) h2, by rw [h3, p.ext.blk b0 hdb]⟩
        · rcases (p.news b0 h0 hdb).2 h2 with hs | ⟨c, c0, c1, c2, c3⟩
          · exact .inl (by rw [h3]; exact hs)
          · exact .inr ⟨c, c0, c1, c2, by rw [h3, c3]⟩

theorem Post.trans {φ φ1 φ2 : Phi} {h h1 h2 : Heap} {w w1 w2 : World} (p : Post φ h w φ1 h1 w1) (q : Post φ1 h1 w1 φ2 h2 w2) : Post φ h w φ2 h2 w2 :=
  ⟨p.toPost0.trans q.toPost0, fun b h1' h2' => by
    rcases Nat.lt_or_ge b h1.next with hb | hb
    · exact q.ext.dom b (p.all b h1' hb)
    · exact q.all b hb h2'⟩

/-! ### blocks kept -/

theorem BlkRel.keep {φ φ' : Phi} {w w' : World} {b : Nat} {x : Blk} (h : BlkRel φ w b x) (he : Ext φ φ') (hd : φ.dom b) (hw : w'.heap[φ.blk b]? = w.heap[φ.blk b]?) : BlkRel φ' w' b x := by
  cases x with
  | row o cells =>
    obtain ⟨C, t, lo, hi, h1, h2, h3, h4, h5, h6⟩ := h
    refine ⟨C, t, lo, hi, by rw [he.blk b hd, hw, h1], by rw [he.fz]; exact h2, by rw [he.tot b hd, h3], by rw [he.base b hd]; exact h4, fun i v hi => ?_, okL_mono he.dom _ h6⟩
    rw [he.base b hd, h5 i v hi, conc_ext he v (okL_iff.1 h6 v (List.mem_of_getElem? hi))]
  | map es clock =>
    obtain ⟨E, h1, h2, h3⟩ := h
    refine ⟨E, by rw [he.blk b hd, hw, h1], ?_, fun e hm => ⟨⟨V.ok_mono he.dom _ (h3 e hm).1.1, V.ok_mono he.dom _ (h3 e hm).1.2⟩, (h3 e hm).2⟩⟩
    rw [h2]
    refine List.map_congr_left fun e hm => ?_
    simp only [concE, conc_ext he _ (h3 e hm).1.1, conc_ext he _ (h3 e hm).1.2]
  | sIter s pos =>
    obtain ⟨h1, h2⟩ := h
    exact ⟨by rw [he.blk b hd, hw, h1], by rw [he.base b hd, h2]⟩
  | mIter m since seen stepped =>
    obtain ⟨h1, h2, h3⟩ := h
    refine ⟨?_, by rw [he.base b hd, h2], fun r hr => he.dom _ (h3 r hr)⟩
    rw [he.blk b hd, hw, h1]
    cases m with
    | none => rfl
    | some r => simp only [Option.map_some, he.blk r (h3 r rfl)]
  | dead => trivial

/-- A world that differs in its count of draws alone. -/
theorem BlkRel.heap {φ : Phi} {w w' : World} {b : Nat} {x : Blk} (h : BlkRel φ w b x) (hw : w'.heap = w.heap) : BlkRel φ w' b x := by
  cases x <;> simp only [BlkRel] at h ⊢ <;> rw [hw] <;> exact h

/-! ### the evaluator's heaps -/

theorem Heap.get_eq (h : Heap) (b : Nat) : h.get b = if b < h.lim0 then h.ro b else h.m.get b := by
  unfold Heap.get
  by_cases hb : b < h.lim0
  · have : Nat.blt b h.lim0 = true := by simp only [Nat.blt, Nat.ble_eq]; omega
    rw [this]; simp [hb]
  · have : Nat.blt b h.lim0 = false := by
      cases hc : Nat.blt b h.lim0 with
      | false => rfl
      | true => simp only [Nat.blt, Nat.ble_eq] at hc; omega
    rw [this]; simp [hb]

theorem Heap.get_set (h : Heap) {b : Nat} (hb : h.lim0 ≤ b) (x : Blk) (c : Nat) : (h.set b x).get c = if c = b then some x else h.get c := by
  have e1 : (h.set b x).get c = if c < h.lim0 then h.ro c else (h.m.set b x).get c := Heap.get_eq (h.set b x) c
  rw [e1, Heap.get_eq]
  by_cases hc : c < h.lim0
  · rw [if_pos hc, if_pos hc, if_neg (by omega)]
  · rw [if_neg hc, if_neg hc, PMap.get_set]

theorem Heap.get_new (h : Heap) (hn : h.lim0 ≤ h.next) (x : Blk) (c : Nat) : (h.new x).2.get c = if c = h.next then some x else h.get c := by
  have e1 : (h.new x).2.get c = if c < h.lim0 then h.ro c else (h.m.set h.next x).get c := Heap.get_eq (h.new x).2 c
  rw [e1, Heap.get_eq]
  by_cases hc : c < h.lim0
  · rw [if_pos hc, if_pos hc, if_neg (by omega)]
  · rw [if_neg hc, if_neg hc, PMap.get_set]

theorem Eff.new (h : Heap) (hl : h.lim0 ≤ h.lim ∧ h.lim ≤ h.next) (x : Blk) : Eff h (h.new x).2 where
  ro := rfl
  lim0 := rfl
  lim := rfl
  next := Nat.le_succ _
  get := fun b hb => by rw [Heap.get_new h (by omega), if_neg (by omega)]
  dead := fun b hb ⟨y, hy, hd⟩ => ⟨y, by rw [Heap.get_new h (by omega), if_neg (by omega)] at hy; exact hy, hd⟩

theorem Eff.set (h : Heap) (hl : h.lim0 ≤ h.lim ∧ h.lim ≤ h.next) {b : Nat} (hb : h.lim ≤ b) (hv : live h b) (x : Blk) : Eff h (h.set b x) where
  ro := rfl
  lim0 := rfl
  lim := rfl
  next := Nat.le_refl _
  get := fun c hc => by rw [Heap.get_set h (by omega), if_neg (by omega)]
  dead := fun c _ ⟨y, hy, hd⟩ => by
    rw [Heap.get_set h (by omega)] at hy
    by_cases e : c = b
    · subst e; exact hv
    · rw [if_neg e] at hy; exact ⟨y, hy, hd⟩

/-! ### a new block -/

def Phi.add (φ : Phi) (b blk base tot : Nat) : Phi :=
  { dom := fun x => x = b ∨ φ.dom x, blk := fun x => if x = b then blk else φ.blk x, base := fun x => if x = b then base else φ.base x, tot := fun x => if x = b then tot else φ.tot x, fz := φ.fz }

theorem Ext.add {φ : Phi} {b : Nat} (hb : ¬ φ.dom b) (blk base tot : Nat) : Ext φ (φ.add b blk base tot) where
  dom := fun _ h => .inr h
  blk := fun c hc => by simp only [Phi.add]; rw [if_neg (fun e : c = b => hb (by rw [← e]; exact hc))]
  base := fun c hc => by simp only [Phi.add]; rw [if_neg (fun e : c = b => hb (by rw [← e]; exact hc))]
  tot := fun c hc => by simp only [Phi.add]; rw [if_neg (fun e : c = b => hb (by rw [← e]; exact hc))]
  fz := rfl

theorem Phi.add_blk (φ : Phi) (b blk base tot : Nat) : (φ.add b blk base tot).blk b = blk := by simp [Phi.add]
theorem Phi.add_base (φ : Phi) (b blk base tot : Nat) : (φ.add b blk base tot).base b = base := by simp [Phi.add]
theorem Phi.add_tot (φ : Phi) (b blk base tot : Nat) : (φ.add b blk base tot).tot b = tot := by simp [Phi.add]

/-- A name for a new block, in a world that has it behind its others. -/
theorem Post.alloc {φ : Phi} {h : Heap} {w w' : World} (hr : Rel φ h w) (x : Blk) (o : Obj) (base tot : Nat) (hh : w'.heap = w.heap.push o) (ho : w'.os = w.os) (ht : w'.tape = w.tape) (hp : w'.output = w.output)
    (hx : BlkRel (φ.add h.next w.heap.size base tot) w' h.next x) : Post φ h w (φ.add h.next w.heap.size base tot) (h.new x).2 w' := by
  have hn : ¬ φ.dom h.next := fun hd => Nat.lt_irrefl _ (hr.lt _ hd)
  have he := Ext.add hn w.heap.size base tot
  have hold : ∀ k, k < w.heap.size → w'.heap[k]? = w.heap[k]? := fun k hk => by rw [hh, Array.getElem?_push, if_neg (by omega)]
  have hlive : ∀ b, live (h.new x).2 b → b ≠ h.next → live h b := fun b ⟨y, hy, hd⟩ hb => ⟨y, by rw [Heap.get_new h (by have := hr.lims; omega), if_neg hb] at hy; exact hy, hd⟩
  refine ⟨⟨hr.lt, he, ⟨?_, ?_, ?_, ?_, ?_, hr.fz⟩, ⟨ho, ht, hp, by rw [hh]; simp, fun k hk _ => hold k hk⟩, ?_, Eff.new h hr.lims x⟩, fun b h1 h2 => .inl (by have h3 : b < h.next + 1 := h2; omega)⟩
  · intro b y hb hy
    rw [Heap.get_new h (by have := hr.lims; omega)] at hy
    by_cases e : b = h.next
    · subst e; simp at hy; subst hy; exact hx
    · rw [if_neg e] at hy
      have hd : φ.dom b := hb.resolve_left e
      exact (hr.blocks b y hd hy).keep he hd (hold _ (hr.size b hd))
  · intro b hb
    show b < h.next + 1
    rcases hb with e | hd
    · omega
    · have := hr.lt b hd; omega
  · intro b hb
    rw [hh, Array.size_push]
    by_cases e : b = h.next
    · subst e; rw [Phi.add_blk]; omega
    · have hd : φ.dom b := hb.resolve_left e
      rw [he.blk b hd]; have := hr.size b hd; omega
  · intro b b' hb hb' hl hv hv' heq
    by_cases e : b = h.next <;> by_cases e' : b' = h.next
    · rw [e, e']
    · have hd' : φ.dom b' := hb'.resolve_left e'
      subst e; rw [Phi.add_blk, he.blk b' hd'] at heq
      have := hr.size b' hd'; omega
    · have hd : φ.dom b := hb.resolve_left e
      subst e'; rw [Phi.add_blk, he.blk b hd] at heq
      have := hr.size b hd; omega
    · have hd : φ.dom b := hb.resolve_left e
      have hd' : φ.dom b' := hb'.resolve_left e'
      rw [he.blk b hd, he.blk b' hd'] at heq
      exact hr.inj b b' hd hd' hl (hlive b hv e) (hlive b' hv' e') heq
  · show h.lim0 ≤ h.lim ∧ h.lim ≤ h.next + 1
    have := hr.lims; omega
  · intro b hb hnb
    have e : b = h.next := hb.resolve_right hnb
    subst e
    exact ⟨Nat.le_refl _, fun _ => .inl (by rw [Phi.add_blk]; exact Nat.le_refl _)⟩

/-- A world with more draws. -/
theorem Post.draws {φ : Phi} {h : Heap} {w w' : World} (hr : Rel φ h w) (hh : w'.heap = w.heap) (ho : w'.os = w.os) (ht : w'.tape = w.tape) (hp : w'.output = w.output) : Post φ h w φ h w' :=
  ⟨⟨hr.lt, Ext.refl φ, ⟨fun b x hd hx => (hr.blocks b x hd hx).heap hh, hr.lt, fun b hd => by rw [hh]; exact hr.size b hd, hr.inj, hr.lims, hr.fz⟩,
    ⟨ho, ht, hp, by rw [hh]; exact Nat.le_refl _, fun k _ _ => by rw [hh]⟩, fun _ hb hn => absurd hb hn, Eff.refl h⟩, fun b h1 h2 => by omega⟩

/-! ### a load -/

theorem Heap.row_some {h : Heap} {b : Nat} {o : Bool} {cs : List V} (hr : h.row b = some (o, cs)) : h.get b = some (.row o cs) := by
  unfold Heap.row at hr
  split at hr
  · rename_i o' cs' he
    simp only [Option.some.injEq, Prod.mk.injEq] at hr
    rw [he, hr.1, hr.2]
  · cases hr

theorem takeAt_some {cs : List V} {off n : Nat} {l : List V} (h : takeAt cs off n = some l) : off + n ≤ cs.length ∧ l = (cs.drop off).take n := by
  unfold takeAt at h
  rw [lenL_eq, takeL_eq, dropL_eq] at h
  split at h
  · rename_i hb
    exact ⟨Nat.le_of_ble_eq_true hb, by simpa using h.symm⟩
  · cases h

theorem Addr.add_none (b o n : Nat) : (⟨b, o, none⟩ : Addr).add n = ⟨b, o + n, none⟩ := by
  unfold Addr.add
  split
  · subst_vars; rfl
  · rfl

theorem cell_of_cells {w : World} {b : Nat} {C : Array Value} {t : TypeId} {fr : Nat × Nat} (h : w.heap[b]? = some (.cells C t fr)) (i : Nat) : w.cell? ⟨b, i, none⟩ = C[i]? := by
  simp [World.cell?, h]

/-- What a load finds. -/
theorem load_cells {φ : Phi} {h : Heap} {w : World} (hr : Rel φ h w) {a : Nat × Nat} {n : Nat} {l : List V} (hd : φ.dom a.1) (hl : h.load a n = some l) :
    l.length = n ∧ okL φ.dom l ∧ ∀ i v, (concL φ l)[i]? = some v → w.cell? ((φ.addr a).add i) = some v := by
  unfold Heap.load at hl
  split at hl
  · rename_i o cs hrow
    obtain ⟨C, t, lo, hi, h1, h2, h3, h4, h5, h6⟩ := hr.blocks a.1 _ hd (Heap.row_some hrow)
    obtain ⟨hle, rfl⟩ := takeAt_some hl
    refine ⟨by simp [List.length_take, List.length_drop]; omega, okL_iff.2 fun v hv => okL_iff.1 h6 v (List.mem_of_mem_drop (List.mem_of_mem_take hv)), fun i v hv => ?_⟩
    rw [concL_map, List.getElem?_map] at hv
    obtain ⟨u, hu, rfl⟩ := Option.map_eq_some_iff.1 hv
    have hi' : i < n := by
      have := (List.getElem?_eq_some_iff.1 hu).1
      simp only [List.length_take] at this; omega
    rw [List.getElem?_take_of_lt hi', List.getElem?_drop] at hu
    rw [Phi.addr, Addr.add_none, cell_of_cells h1, Nat.add_assoc]
    exact h5 _ u hu
  · cases hl

theorem run_load_cells {φ : Phi} {h : Heap} {w : World} (P : Program) (hr : Rel φ h w) {a : Nat × Nat} {n : Nat} {l : List V} (hd : φ.dom a.1) (hl : h.load a n = some l) :
    (loadCells (φ.addr a) n).run P w = .ok (concL φ l).toArray w ∧ okL φ.dom l ∧ l.length = n := by
  obtain ⟨h1, h2, h3⟩ := load_cells hr hd hl
  refine ⟨?_, h2, h1⟩
  have := run_loadCells_list (P := P) w (φ.addr a) (concL φ l) h3
  rwa [concL_map, List.length_map, h1, ← concL_map] at this

/-! ### a store -/

theorem setCells_other (b : Nat) : ∀ (vs : List Value) (o : Nat) (w : World) (k : Nat), k ≠ b → (w.setCells b o vs).heap[k]? = w.heap[k]?
  | [], _, _, _, _ => rfl
  | v :: r, o, w, k, h => by
    show ((w.setCell ⟨b, o, none⟩ v).setCells b (o + 1) r).heap[k]? = _
    rw [setCells_other b r (o + 1) _ k h]
    exact Below.heap_setCell w _ v k h

theorem setCells_keeps (b : Nat) : ∀ (vs : List Value) (o : Nat) (w : World), (w.setCells b o vs).os = w.os ∧ (w.setCells b o vs).tape = w.tape ∧ (w.setCells b o vs).output = w.output ∧ (w.setCells b o vs).heap.size = w.heap.size
  | [], _, _ => ⟨rfl, rfl, rfl, rfl⟩
  | v :: r, o, w => by
    have := setCells_keeps b r (o + 1) (w.setCell ⟨b, o, none⟩ v)
    refine ⟨this.1, this.2.1, this.2.2.1, ?_⟩
    show ((w.setCell ⟨b, o, none⟩ v).setCells b (o + 1) r).heap.size = _
    rw [this.2.2.2]
    simp [World.setCell]

theorem setCells_same (b : Nat) (t : TypeId) (fr : Nat × Nat) : ∀ (vs : List Value) (o : Nat) (w : World) (C : Array Value), w.heap[b]? = some (.cells C t fr) → o + vs.length ≤ C.size →
    ∃ C' : Array Value, (w.setCells b o vs).heap[b]? = some (.cells C' t fr) ∧ C'.size = C.size ∧ ∀ i, C'[i]? = if o ≤ i ∧ i < o + vs.length then vs[i - o]? else C[i]?
  | [], o, w, C, h, _ => ⟨C, h, rfl, fun i => by rw [if_neg (by simp)]⟩
  | v :: r, o, w, C, h, hl => by
    have h1 : (w.setCell ⟨b, o, none⟩ v).heap[b]? = some (.cells (C.setIfInBounds o v) t fr) := by
      simp only [World.setCell, Array.getElem?_modify, h]; simp
    simp only [List.length_cons] at hl
    obtain ⟨C', h2, h3, h4⟩ := setCells_same b t fr r (o + 1) (w.setCell ⟨b, o, none⟩ v) (C.setIfInBounds o v) h1 (by simp; omega)
    refine ⟨C', h2, by rw [h3]; simp, fun i => ?_⟩
    rw [h4 i]
    by_cases c1 : o + 1 ≤ i ∧ i < o + 1 + r.length
    · rw [if_pos c1, if_pos (by simp only [List.length_cons]; omega), show i - o = (i - (o + 1)) + 1 by omega, List.getElem?_cons_succ]
    · rw [if_neg c1]
      by_cases c2 : i = o
      · subst c2
        rw [if_pos (by simp only [List.length_cons]; omega), Nat.sub_self, List.getElem?_cons_zero, Array.getElem?_setIfInBounds_self_of_lt (by omega)]
      · rw [if_neg (by simp only [List.length_cons]; omega), Array.getElem?_setIfInBounds_ne (by omega)]

theorem splice_length {cs new : List V} {off : Nat} (h : off + new.length ≤ cs.length) : (splice cs off new).length = cs.length := by
  unfold splice
  rw [app_eq, app_eq, takeL_eq, dropL_eq, lenL_eq]
  simp; omega

theorem splice_get {cs new : List V} {off : Nat} (h : off + new.length ≤ cs.length) (i : Nat) : (splice cs off new)[i]? = if off ≤ i ∧ i < off + new.length then new[i - off]? else cs[i]? := by
  unfold splice
  rw [app_eq, app_eq, takeL_eq, dropL_eq, lenL_eq]
  by_cases h1 : i < off
  · rw [if_neg (by omega), List.getElem?_append_left (by simp; omega), List.getElem?_take_of_lt h1]
  · rw [List.getElem?_append_right (by simp; omega)]
    have e : (List.take off cs).length = off := by simp; omega
    rw [e]
    by_cases h2 : i < off + new.length
    · rw [if_pos (by omega), List.getElem?_append_left (by omega)]
    · rw [if_neg (by omega), List.getElem?_append_right (by omega), List.getElem?_drop]
      congr 1; omega

theorem allCells_iff {l : List V} : allCells l = true ↔ ∀ v ∈ l, v.isCell = true := by
  induction l with
  | nil => simp [allCells]
  | cons x xs ih =>
    have e : allCells (x :: xs) = Bool.rec false (allCells xs) x.isCell := rfl
    rw [e]
    cases hx : x.isCell <;> simp [hx, ih]

theorem conc_cell {φ : Phi} {v : V} (h : v.isCell = true) : (conc φ v).oneCell' = true := by
  cases v with
  | ptr a => cases a <;> rfl
  | slice a n c => cases a <;> rfl
  | map r => cases r <;> rfl
  | agg cs => simp [V.isCell] at h
  | tuple cs => simp [V.isCell] at h
  | _ => rfl

theorem Heap.store_some {h h' : Heap} {a : Nat × Nat} {new : List V} (hs : h.store a new = some h') :
    ∃ o cs, h.get a.1 = some (.row o cs) ∧ h.lim ≤ a.1 ∧ (∀ v ∈ new, v.isCell = true) ∧ a.2 + new.length ≤ cs.length ∧ h' = h.set a.1 (.row o (splice cs a.2 new)) := by
  unfold Heap.store at hs
  split at hs
  · rename_i o cs hrow hlim hall
    rw [lenL_eq, lenL_eq] at hs
    split at hs
    · rename_i hle
      exact ⟨o, cs, Heap.row_some hrow, Nat.le_of_ble_eq_true hlim, allCells_iff.1 hall, Nat.le_of_ble_eq_true hle, by simpa using hs.symm⟩
    · cases hs
  · cases hs

/-- A store. -/
theorem store_post {φ : Phi} {h h' : Heap} {w : World} (P : Program) (hr : Rel φ h w) {a : Nat × Nat} {new : List V} (hd : φ.dom a.1) (hok : okL φ.dom new) (hs : h.store a new = some h') :
    ∃ w', (storeCells (φ.addr a) (concL φ new)).run P w = .ok () w' ∧ Post φ h w φ h' w' := by
  obtain ⟨o, cs, hget, hlim, hcell, hle, rfl⟩ := Heap.store_some hs
  obtain ⟨C, t, lo, hi, h1, h2, h3, h4, h5, h6⟩ := hr.blocks a.1 _ hd hget
  have hlen : (concL φ new).length = new.length := by rw [concL_map, List.length_map]
  have hl0 := hr.lims
  refine ⟨w.setCells (φ.blk a.1) (φ.base a.1 + a.2) (concL φ new), ?_, ?_⟩
  · have := run_storeCells_cells (P := P) (φ.blk a.1) (φ.base a.1 + a.2) (concL φ new) 0 w (fun j hj => ?_) (fun j hj => ?_) (fun v hv => ?_)
    · exact this
    · rw [hlen] at hj
      rw [cell_of_cells h1, Array.getElem?_eq_getElem (by omega)]; rfl
    · rw [hlen] at hj
      simp only [World.frozen?, h1]
      by_cases hlo : lo < hi
      · have := h2 (by have := hr.fz; omega) hlo
        have : ¬ lo ≤ φ.base a.1 + a.2 + 0 + j := by omega
        rw [Bool.and_eq_false_iff, decide_eq_false_iff_not]; exact .inl this
      · have : ¬ (lo ≤ φ.base a.1 + a.2 + 0 + j ∧ φ.base a.1 + a.2 + 0 + j < hi) := by omega
        rw [Bool.and_eq_false_iff, decide_eq_false_iff_not, decide_eq_false_iff_not]; omega
    · rw [concL_map] at hv
      obtain ⟨u, hu, rfl⟩ := List.mem_map.1 hv
      exact conc_cell (hcell u hu)
  · have hk := setCells_keeps (φ.blk a.1) (concL φ new) (φ.base a.1 + a.2) w
    obtain ⟨C', c1, c2, c3⟩ := setCells_same (φ.blk a.1) t (lo, hi) (concL φ new) (φ.base a.1 + a.2) w C h1 (by rw [hlen]; omega)
    have hlv : live h a.1 := ⟨_, hget, by simp⟩
    refine ⟨⟨hr.lt, Ext.refl φ, ⟨fun b x hb hx => ?_, hr.lt, fun b hb => by rw [hk.2.2.2]; exact hr.size b hb, fun b b' hb hb' hl hv hv' he => ?_, hr.lims, hr.fz⟩, ⟨hk.1, hk.2.1, hk.2.2.1, by rw [hk.2.2.2]; exact Nat.le_refl _, fun k _ hb => ?_⟩,
      fun _ hb hn => absurd hb hn, Eff.set h hr.lims hlim hlv _⟩, fun b h1 h2 => absurd (Nat.lt_of_lt_of_le h2 h1) (Nat.lt_irrefl _)⟩
    · rw [Heap.get_set h (by omega)] at hx
      by_cases e : b = a.1
      · subst e
        rw [if_pos rfl] at hx
        simp only [Option.some.injEq] at hx
        subst hx
        refine ⟨C', t, lo, hi, c1, by rw [c2]; exact h2, by rw [c2, h3], by rw [c2, splice_length hle]; exact h4, fun i v hv => ?_, okL_iff.2 fun v hv => ?_⟩
        · rw [c3, hlen]
          rw [splice_get hle] at hv
          by_cases hc : a.2 ≤ i ∧ i < a.2 + new.length
          · rw [if_pos hc] at hv
            rw [if_pos (by omega), concL_map, List.getElem?_map, show φ.base a.1 + i - (φ.base a.1 + a.2) = i - a.2 by omega, hv]; rfl
          · rw [if_neg hc] at hv
            rw [if_neg (by omega)]; exact h5 i v hv
        · obtain ⟨i, hi⟩ := List.getElem?_of_mem hv
          rw [splice_get hle] at hi
          split at hi
          · exact okL_iff.1 hok v (List.mem_of_getElem? hi)
          · exact okL_iff.1 h6 v (List.mem_of_getElem? hi)
      · rw [if_neg e] at hx
        by_cases hlv' : x = .dead
        · subst hlv'; exact trivial
        · have hne : φ.blk b ≠ φ.blk a.1 := fun he => e (hr.inj a.1 b hd hb (by omega) hlv ⟨x, hx, hlv'⟩ he.symm).symm
          exact (hr.blocks b x hb hx).keep (Ext.refl φ) hb (setCells_other _ _ _ _ _ hne)
    · have tr : ∀ c, live (h.set a.1 (.row o (splice cs a.2 new))) c → live h c := fun c ⟨y, hy, hn⟩ => by
        rw [Heap.get_set h (by omega)] at hy
        by_cases e : c = a.1
        · subst e; exact hlv
        · rw [if_neg e] at hy; exact ⟨y, hy, hn⟩
      exact hr.inj b b' hb hb' hl (tr b hv) (tr b' hv') he
    · exact setCells_other _ _ _ _ _ (fun e => hb a.1 hd hlim hlv e.symm)

end Go.Abs
