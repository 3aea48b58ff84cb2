/-
  How the evaluator's heaps stand to the model's worlds.
-/
import Derived.Test.YtaliknnfbjehhaaDoorAbsExec
set_option linter.all false
namespace Go.Abs
open Go.RowKit

/-- Names of blocks, and where they lie in a world: the block, the place at which the name's cells begin, the block's cells in all; below 'fz': blocks that may be frozen in part. -/
structure Phi where
  dom : Nat → Prop
  blk : Nat → Nat
  base : Nat → Nat
  tot : Nat → Nat
  fz : Nat

def Phi.addr (φ : Phi) (a : Nat × Nat) : Addr := ⟨φ.blk a.1, φ.base a.1 + a.2, none⟩

def str (l : List UInt8) : ByteArray := ⟨l.toArray⟩

mutual
def conc (φ : Phi) : V → Value
  | .bool b => .bool b
  | .int k n => .int k n
  | .str l => .string (str l)
  | .ptr none => .pointer none
  | .ptr (some a) => .pointer (some (φ.addr a))
  | .slice none n c => .slice none n c
  | .slice (some a) n c => .slice (some (φ.addr a)) n c
  | .oslice b o n e => .slice (some (φ.addr (b, o))) n ((φ.tot b - (φ.base b + o)) / e)
  | .dang a => .slice (some a) 0 0
  | .map none => .map none
  | .map (some r) => .map (some (φ.blk r))
  | .func fn f c => .func fn (concL φ f).toArray (concL φ c).toArray
  | .nilFunc => .nilFunc
  | .iface t v => .iface t (conc φ v)
  | .nilIface => .nilIface
  | .agg cs => .agg (concL φ cs).toArray
  | .tuple vs => .tuple (concL φ vs).toArray
def concL (φ : Phi) : List V → List Value
  | [] => []
  | v :: vs => conc φ v :: concL φ vs
end

mutual
def V.ok (d : Nat → Prop) : V → Prop
  | .ptr (some a) => d a.1
  | .slice (some a) _ _ => d a.1
  | .oslice b _ _ _ => d b
  | .map (some r) => d r
  | .func _ f c => okL d f ∧ okL d c
  | .iface _ v => v.ok d
  | .agg cs => okL d cs
  | .tuple vs => okL d vs
  | _ => True
def okL (d : Nat → Prop) : List V → Prop
  | [] => True
  | v :: vs => v.ok d ∧ okL d vs
end

theorem concL_map (φ : Phi) (l : List V) : concL φ l = l.map (conc φ) := by
  induction l with
  | nil => rfl
  | cons x xs ih => simp [concL, ih]

theorem okL_iff {d : Nat → Prop} {l : List V} : okL d l ↔ ∀ v ∈ l, v.ok d := by
  induction l with
  | nil => simp [okL]
  | cons x xs ih => simp [okL, ih]

/-- More names, the old ones where they were. -/
structure Ext (φ φ' : Phi) : Prop where
  dom : ∀ b, φ.dom b → φ'.dom b
  blk : ∀ b, φ.dom b → φ'.blk b = φ.blk b
  base : ∀ b, φ.dom b → φ'.base b = φ.base b
  tot : ∀ b, φ.dom b → φ'.tot b = φ.tot b
  fz : φ'.fz = φ.fz

theorem Ext.refl (φ : Phi) : Ext φ φ := ⟨fun _ h => h, fun _ _ => rfl, fun _ _ => rfl, fun _ _ => rfl, rfl⟩
theorem Ext.trans {φ φ' φ'' : Phi} (h : Ext φ φ') (k : Ext φ' φ'') : Ext φ φ'' :=
  ⟨fun b hb => k.dom b (h.dom b hb), fun b hb => (k.blk b (h.dom b hb)).trans (h.blk b hb), fun b hb => (k.base b (h.dom b hb)).trans (h.base b hb),
    fun b hb => (k.tot b (h.dom b hb)).trans (h.tot b hb), k.fz.trans h.fz⟩

theorem Ext.addr {φ φ' : Phi} (h : Ext φ φ') {a : Nat × Nat} (ha : φ.dom a.1) : φ'.addr a = φ.addr a := by
  simp only [Phi.addr, h.blk _ ha, h.base _ ha]

mutual
theorem conc_ext {φ φ' : Phi} (h : Ext φ φ') : ∀ (v : V), v.ok φ.dom → conc φ' v = conc φ v
  | .bool _, _ => rfl
  | .int _ _, _ => rfl
  | .str _, _ => rfl
  | .ptr none, _ => rfl
  | .ptr (some a), hv => by simp only [conc]; rw [h.addr hv]
  | .slice none _ _, _ => rfl
  | .slice (some a) _ _, hv => by simp only [conc]; rw [h.addr hv]
  | .oslice b o n e, hv => by simp only [conc]; rw [h.addr (a := (b, o)) hv, h.tot _ hv, h.base _ hv]
  | .dang _, _ => rfl
  | .map none, _ => rfl
  | .map (some r), hv => by simp only [conc]; rw [h.blk _ hv]
  | .func fn f c, hv => by simp only [conc]; rw [concL_ext h f hv.1, concL_ext h c hv.2]
  | .nilFunc, _ => rfl
  | .iface t v, hv => by simp only [conc]; rw [conc_ext h v hv]
  | .nilIface, _ => rfl
  | .agg cs, hv => by simp only [conc]; rw [concL_ext h cs hv]
  | .tuple vs, hv => by simp only [conc]; rw [concL_ext h vs hv]
theorem concL_ext {φ φ' : Phi} (h : Ext φ φ') : ∀ (l : List V), okL φ.dom l → concL φ' l = concL φ l
  | [], _ => rfl
  | v :: vs, hv => by simp only [concL]; rw [conc_ext h v hv.1, concL_ext h vs hv.2]
end

mutual
theorem conc_fz (φ : Phi) (z : Nat) : ∀ (v : V), conc { φ with fz := z } v = conc φ v
  | .bool _ => rfl
  | .int _ _ => rfl
  | .str _ => rfl
  | .ptr none => rfl
  | .ptr (some _) => rfl
  | .slice none _ _ => rfl
  | .slice (some _) _ _ => rfl
  | .oslice _ _ _ _ => rfl
  | .dang _ => rfl
  | .map none => rfl
  | .map (some _) => rfl
  | .func fn f c => by simp only [conc]; rw [concL_fz φ z f, concL_fz φ z c]
  | .nilFunc => rfl
  | .iface t v => by simp only [conc]; rw [conc_fz φ z v]
  | .nilIface => rfl
  | .agg cs => by simp only [conc]; rw [concL_fz φ z cs]
  | .tuple vs => by simp only [conc]; rw [concL_fz φ z vs]
theorem concL_fz (φ : Phi) (z : Nat) : ∀ (l : List V), concL { φ with fz := z } l = concL φ l
  | [] => rfl
  | v :: vs => by simp only [concL]; rw [conc_fz φ z v, concL_fz φ z vs]
end

mutual
theorem V.ok_mono {d d' : Nat → Prop} (h : ∀ b, d b → d' b) : ∀ (v : V), v.ok d → v.ok d'
  | .bool _, _ => trivial
  | .int _ _, _ => trivial
  | .str _, _ => trivial
  | .ptr none, _ => trivial
  | .ptr (some _), hv => h _ hv
  | .slice none _ _, _ => trivial
  | .slice (some _) _ _, hv => h _ hv
  | .oslice _ _ _ _, hv => h _ hv
  | .dang _, _ => trivial
  | .map none, _ => trivial
  | .map (some _), hv => h _ hv
  | .func _ f c, hv => ⟨okL_mono h f hv.1, okL_mono h c hv.2⟩
  | .nilFunc, _ => trivial
  | .iface _ v, hv => V.ok_mono h v hv
  | .nilIface, _ => trivial
  | .agg cs, hv => okL_mono h cs hv
  | .tuple vs, hv => okL_mono h vs hv
theorem okL_mono {d d' : Nat → Prop} (h : ∀ b, d b → d' b) : ∀ (l : List V), okL d l → okL d' l
  | [], _ => trivial
  | v :: vs, hv => ⟨V.ok_mono h v hv.1, okL_mono h vs hv.2⟩
end

/-! ### finite maps -/

theorem PMap.get_leaf {α : Type} (k : Nat) : (PMap.leaf : PMap α).get k = none := rfl

theorem PMap.get_node {α : Type} (l r : PMap α) (v : Option α) (k : Nat) :
    (PMap.node l v r).get k = if k = 0 then v else if (k - 1) % 2 = 0 then l.get ((k - 1) / 2) else r.get ((k - 1) / 2) := by
  cases k with
  | zero => rfl
  | succ k =>
    have e : (PMap.node l v r).get (k + 1) = Bool.rec (r.get (k / 2)) (l.get (k / 2)) (Nat.beq (k % 2) 0) := rfl
    rw [e]
    by_cases h : k % 2 = 0
    · have hb : Nat.beq (k % 2) 0 = true := by rw [h]; rfl
      rw [hb]; simp [h]
    · have hb : Nat.beq (k % 2) 0 = false := by
        cases hc : Nat.beq (k % 2) 0 with
        | false => rfl
        | true => exact absurd (Nat.eq_of_beq_eq_true hc) h
      rw [hb]; simp [h]

theorem PMap.setF_zero {α : Type} (x : α) (t : PMap α) (k : Nat) : PMap.setF x 0 t k = t := rfl
theorem PMap.setF_leaf {α : Type} (x : α) (f k : Nat) : PMap.setF x (f + 1) .leaf k = if k = 0 then .node .leaf (some x) .leaf else
    if (k - 1) % 2 = 0 then .node (PMap.setF x f .leaf ((k - 1) / 2)) none .leaf else .node .leaf none (PMap.setF x f .leaf ((k - 1) / 2)) := by
  cases k with
  | zero => rfl
  | succ k =>
    have e : PMap.setF x (f + 1) .leaf (k + 1) = Bool.rec (.node .leaf none (PMap.setF x f .leaf (k / 2))) (.node (PMap.setF x f .leaf (k / 2)) none .leaf) (Nat.beq (k % 2) 0) := rfl
    rw [e]
    by_cases h : k % 2 = 0
    · have hb : Nat.beq (k % 2) 0 = true := by rw [h]; rfl
      rw [hb]; simp [h]
    · have hb : Nat.beq (k % 2) 0 = false := by
        cases hc : Nat.beq (k % 2) 0 with
        | false => rfl
        | true => exact absurd (Nat.eq_of_beq_eq_true hc) h
      rw [hb]; simp [h]
theorem PMap.setF_node {α : Type} (x : α) (f k : Nat) (l r : PMap α) (v : Option α) : PMap.setF x (f + 1) (.node l v r) k = if k = 0 then .node l (some x) r else
    if (k - 1) % 2 = 0 then .node (PMap.setF x f l ((k - 1) / 2)) v r else .node l v (PMap.setF x f r ((k - 1) / 2)) := by
  cases k with
  | zero => rfl
  | succ k =>
    have e : PMap.setF x (f + 1) (.node l v r) (k + 1) = Bool.rec (.node l v (PMap.setF x f r (k / 2))) (.node (PMap.setF x f l (k / 2)) v r) (Nat.beq (k % 2) 0) := rfl
    rw [e]
    by_cases h : k % 2 = 0
    · have hb : Nat.beq (k % 2) 0 = true := by rw [h]; rfl
      rw [hb]; simp [h]
    · have hb : Nat.beq (k % 2) 0 = false := by
        cases hc : Nat.beq (k % 2) 0 with
        | false => rfl
        | true => exact absurd (Nat.eq_of_beq_eq_true hc) h
      rw [hb]; simp [h]

theorem PMap.get_setF {α : Type} (x : α) : ∀ (f : Nat) (t : PMap α) (k j : Nat), k < f → (PMap.setF x f t k).get j = if j = k then some x else t.get j := by
  intro f
  induction f with
  | zero => intro t k j h; omega
  | succ f ih =>
    intro t k j h
    have key : ∀ (u : PMap α) (j' : Nat), k ≠ 0 → (PMap.setF x f u ((k - 1) / 2)).get j' = if j' = (k - 1) / 2 then some x else u.get j' := fun u j' hk => ih u _ j' (by omega)
    cases t with
    | leaf =>
      rw [PMap.setF_leaf]
      by_cases hk : k = 0
      · subst hk; simp only [if_true]; rw [PMap.get_node]
        by_cases hj : j = 0 <;> simp [hj, PMap.get_leaf]
      · rw [if_neg hk]
        by_cases hp : (k - 1) % 2 = 0
        · rw [if_pos hp, PMap.get_node]
          by_cases hj : j = 0
          · have : j ≠ k := by omega
            simp [hj, PMap.get_leaf]; omega
          · rw [if_neg hj, key _ _ hk]
            by_cases hq : (j - 1) % 2 = 0
            · rw [if_pos hq]
              by_cases he : j = k
              · simp [he]
              · rw [if_neg he, if_neg (by omega)]; rfl
            · rw [if_neg hq, if_neg (by omega)]; rfl
        · rw [if_neg hp, PMap.get_node]
          by_cases hj : j = 0
          · have : j ≠ k := by omega
            simp [hj, PMap.get_leaf]; omega
          · rw [if_neg hj, key _ _ hk]
            by_cases hq : (j - 1) % 2 = 0
            · rw [if_pos hq, if_neg (by omega)]; rfl
            · rw [if_neg hq]
              by_cases he : j = k
              · simp [he]
              · rw [if_neg he, if_neg (by omega)]; rfl
    | node l v r =>
      rw [PMap.setF_node]
      by_cases hk : k = 0
      · subst hk; simp only [if_true]; rw [PMap.get_node, PMap.get_node]
        by_cases hj : j = 0 <;> simp [hj]
      · rw [if_neg hk]
        by_cases hp : (k - 1) % 2 = 0
        · rw [if_pos hp, PMap.get_node, PMap.get_node]
          by_cases hj : j = 0
          · have : ¬ j = k := by omega
            rw [if_pos hj, if_neg this, if_pos hj]
          · rw [if_neg hj, if_neg hj, key _ _ hk]
            by_cases hq : (j - 1) % 2 = 0
            · rw [if_pos hq]
              by_cases he : j = k
              · simp [he]
              · rw [if_neg he, if_neg (by omega), if_pos hq]
            · rw [if_neg hq, if_neg (by omega), if_neg hq]
        · rw [if_neg hp, PMap.get_node, PMap.get_node]
          by_cases hj : j = 0
          · have : ¬ j = k := by omega
            rw [if_pos hj, if_neg this, if_pos hj]
          · rw [if_neg hj, if_neg hj, key _ _ hk]
            by_cases hq : (j - 1) % 2 = 0
            · rw [if_pos hq, if_neg (by omega), if_pos hq]
            · rw [if_neg hq]
              by_cases he : j = k
              · simp [he]
              · rw [if_neg he, if_neg (by omega), if_neg hq]

theorem PMap.get_set {α : Type} (t : PMap α) (k j : Nat) (x : α) : (t.set k x).get j = if j = k then some x else t.get j :=
  PMap.get_setF x (k + 1) t k j (by omega)

end Go.Abs
