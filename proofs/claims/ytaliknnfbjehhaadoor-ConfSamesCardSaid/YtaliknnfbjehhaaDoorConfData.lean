/-
  ConfSames: what Make leaves, as data; stores to it.
-/
import Derived.Test.YtaliknnfbjehhaaDoorConfMake
set_option linter.all false
namespace Go.Proofs.YtaliknnfbjehhaaDoor.CS
open Go.Abs Go.RowKit Go.Proofs
set_option maxRecDepth 100000

def bOf (lo : Nat) : V → Nat
  | .oslice b _ _ _ => b
  | _ => lo

def QsD.of (lo : Nat) (qv : V) (l : List It) : QsD where
  b := bOf lo qv
  o := 0
  n := l.length
  path i := (l[i]?.map It.path).getD []
  cv i := (l[i]?.map It.cv).getD .nilFunc
  us i := (l[i]?.map It.us).getD 0
  cb i := bOf lo ((l[i]?.map It.cv).getD .nilFunc)
  co _ := 0
  cn i := ((l[i]?.map It.caps).getD []).length
  lv i j := ((((l[i]?.map It.caps).getD [])[j]?).map fun c => Int.ofNat c.1).getD 0
  mv i j := ((((l[i]?.map It.caps).getD [])[j]?).map fun c => Int.ofNat c.2).getD 0

theorem of_get {lo : Nat} {qv : V} {l : List It} {i : Nat} {x : It} (h : l[i]? = some x) : (QsD.of lo qv l).path i = x.path ∧ (QsD.of lo qv l).cv i = x.cv ∧ (QsD.of lo qv l).us i = x.us ∧ (QsD.of lo qv l).cb i = bOf lo x.cv ∧ (QsD.of lo qv l).cn i = x.caps.length := by
  simp only [QsD.of, h, Option.map_some, Option.getD_some, and_self]

theorem of_ok {lo : Nat} {H : Heap} (hlo : lo < H.next) {qv : V} {l : List It} (rep : Rep lo H qv l) (hcaps : ∀ x ∈ l, CapsRep lo H x.cv x.caps) (hlen : l.length ≤ 16) (hcl : ∀ x ∈ l, x.caps.length < 1000) : IsQs H qv (QsD.of lo qv l) ∧ (QsD.of lo qv l).within lo H.next := by
  have hmem : ∀ i, i < l.length → ∃ x, l[i]? = some x ∧ x ∈ l := fun i hi => ⟨l[i], List.getElem?_eq_getElem hi, List.getElem_mem hi⟩
  have hcell : ∀ i x, l[i]? = some x → H.cell (bOf lo qv, 0 + i * 3) = some (.str x.path) ∧ H.cell (bOf lo qv, 0 + i * 3 + 1) = some x.cv ∧ H.cell (bOf lo qv, 0 + i * 3 + 2) = some (.int .i64 x.us) := fun i x hx => by
    rcases rep with ⟨h1, h2⟩ | ⟨h1, b, h2, h3, h4, h5⟩
    · subst h1; cases hx
    · subst h4
      rw [Nat.zero_add]
      obtain ⟨q1, q2, q3⟩ := flat_get l i x hx
      exact ⟨(cell_row h5 _).trans q1, (cell_row h5 _).trans q2, (cell_row h5 _).trans q3⟩
  have hsl : ∀ x ∈ l, Sl x.cv (bOf lo x.cv) 0 x.caps.length ∧ lo ≤ bOf lo x.cv ∧ bOf lo x.cv < H.next ∧ ∀ j c, x.caps[j]? = some c → H.cell (bOf lo x.cv, 0 + j * 2) = some (nI c.1) ∧ H.cell (bOf lo x.cv, 0 + j * 2 + 1) = some (nI c.2) := fun x hx => by
    rcases hcaps x hx with ⟨h1, h2⟩ | ⟨h1, b, h2, h3, h4, h5⟩
    · rw [h1, h2]
      exact ⟨.nil _ _ _, Nat.le_refl _, hlo, fun j c hc => by cases hc⟩
    · rw [h4]
      refine ⟨.op _ _ _ _, h2, h3, fun j c hc => ?_⟩
      rw [Nat.zero_add]
      obtain ⟨q1, q2⟩ := cflat_get x.caps j c hc
      exact ⟨(cell_row h5 _).trans q1, (cell_row h5 _).trans q2⟩
  constructor
  · exact
      { sl := by
          rcases rep with ⟨h1, h2⟩ | ⟨h1, b, h2, h3, h4, h5⟩
          · subst h1; subst h2; exact .nil _ _ _
          · subst h4; exact .op _ _ _ _
        small := by show l.length < _; omega
        pc := fun i hi => by
          obtain ⟨x, hx, -⟩ := hmem i hi
          rw [(of_get hx).1]; exact (hcell i x hx).1
        cc := fun i hi => by
          obtain ⟨x, hx, -⟩ := hmem i hi
          rw [(of_get hx).2.1]; exact (hcell i x hx).2.1
        uc := fun i hi => by
          obtain ⟨x, hx, -⟩ := hmem i hi
          rw [(of_get hx).2.2.1]; exact (hcell i x hx).2.2
        iscell := fun i hi => by
          obtain ⟨x, hx, hm⟩ := hmem i hi
          rw [(of_get hx).2.1]; exact (hcaps x hm).isCell
        cs := fun i hi => by
          obtain ⟨x, hx, hm⟩ := hmem i hi
          obtain ⟨-, q2, -, q4, q5⟩ := of_get (lo := lo) (qv := qv) hx
          rw [q2, q4, q5]; exact (hsl x hm).1
        csmall := fun i hi => by
          obtain ⟨x, hx, hm⟩ := hmem i hi
          rw [(of_get hx).2.2.2.2]
          have := hcl x hm; omega
        lc := fun i hi j hj => by
          obtain ⟨x, hx, hm⟩ := hmem i hi
          obtain ⟨-, q2, -, q4, q5⟩ := of_get (lo := lo) (qv := qv) hx
          rw [q5] at hj
          rw [q4]
          refine ((hsl x hm).2.2.2 j _ (List.getElem?_eq_getElem hj)).1.trans ?_
          simp only [QsD.of, hx, Option.map_some, Option.getD_some, List.getElem?_eq_getElem hj]; rfl
        mc := fun i hi j hj => by
          obtain ⟨x, hx, hm⟩ := hmem i hi
          obtain ⟨-, q2, -, q4, q5⟩ := of_get (lo := lo) (qv := qv) hx
          rw [q5] at hj
          rw [q4]
          refine ((hsl x hm).2.2.2 j _ (List.getElem?_eq_getElem hj)).2.trans ?_
          simp only [QsD.of, hx, Option.map_some, Option.getD_some, List.getElem?_eq_getElem hj]; rfl }
  · refine ⟨?_, ?_, fun i hi => ?_⟩
    · rcases rep with ⟨h1, h2⟩ | ⟨h1, b, h2, h3, h4, h5⟩
      · subst h2; exact Nat.le_refl _
      · subst h4; exact h2
    · rcases rep with ⟨h1, h2⟩ | ⟨h1, b, h2, h3, h4, h5⟩
      · subst h2; exact hlo
      · subst h4; exact h3
    · obtain ⟨x, hx, hm⟩ := hmem i hi
      rw [(of_get hx).2.2.2.1]
      exact ⟨(hsl x hm).2.1, (hsl x hm).2.2.1⟩

theorem of_eqTo {lo lo' : Nat} {qv qv' : V} {l l' : List It} (h : l.map It.tri = l'.map It.tri) : (QsD.of lo qv l).eqTo (QsD.of lo' qv' l') := by
  have hlen : l.length = l'.length := by have := congrArg List.length h; simpa using this
  refine ⟨hlen, fun i hi => ?_⟩
  have hi : i < l.length := hi
  have hi' : i < l'.length := by omega
  have hx := List.getElem?_eq_getElem hi
  have hy := List.getElem?_eq_getElem hi'
  have ht : l[i].tri = l'[i].tri := by
    have := congrArg (fun m => m[i]?) h
    simp only [List.getElem?_map, hx, hy, Option.map_some, Option.some.injEq] at this
    exact this
  simp only [It.tri, Prod.mk.injEq] at ht
  obtain ⟨t1, t2, t3⟩ := ht
  refine ⟨?_, ?_, ?_, fun j _ => ⟨?_, ?_⟩⟩ <;> simp only [QsD.of, hx, hy, Option.map_some, Option.getD_some, t1, t2, t3]

/-! ### a cell stored -/

theorem cell_store {h : Heap} {b off : Nat} {o : Bool} {cs : List V} {v : V} (hr : h.row b = some (o, cs)) (h0 : h.lim0 ≤ b) (hoff : off < cs.length) (c j : Nat) :
    (h.set b (.row o (splice cs off [v]))).cell (c, j) = if c = b ∧ j = off then some v else h.cell (c, j) := by
  by_cases hc : c = b
  · subst hc
    rw [cell_row (row_set_same (x := .row o (splice cs off [v])) h0), cell_row hr]
    rw [splice_get (by simp only [List.length_singleton]; omega)]
    by_cases hj : j = off
    · subst hj; simp
    · simp only [List.length_singleton, hj, and_false, if_false]
      rw [if_neg (by omega)]
  · rw [cell_same (row_set_other h0 hc), if_neg (fun h => hc h.1)]

end Go.Proofs.YtaliknnfbjehhaaDoor.CS
