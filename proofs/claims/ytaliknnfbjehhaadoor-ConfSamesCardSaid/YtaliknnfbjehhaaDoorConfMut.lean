/-
  ConfSames: what each change does.
-/
import Derived.Test.YtaliknnfbjehhaaDoorConfData
import Derived.Test.YtaliknnfbjehhaaDoorConfRegC
set_option linter.all false
namespace Go.Proofs.YtaliknnfbjehhaaDoor.CS
open Go.Abs Go.RowKit Go.Proofs
set_option maxRecDepth 100000

/-- Calls: known is answered so; the others by their code. -/
noncomputable def callC (K : Nat) (f : FuncId) (args : List V) (h : Heap) : Option Rets :=
  match Nat.beq f 4 with
  | true => (match args with
    | [] => some [(.bool true, h)]
    | _ => none)
  | false => callA Tryd.prog (execA Tryd.prog K) f args h

def lblS (i : Nat) : List UInt8 := if i = 0 then [] else if i = 1 then [103, 112, 117] else [115, 115, 100]
abbrev lblRow : List V := [.str [], .str [103, 112, 117], .str [115, 115, 100]]
theorem lbl_get {i : Nat} (h : i < 3) : lblRow[i]? = some (.str (lblS i)) := by
  match i, h with
  | 0, _ => rfl
  | 1, _ => rfl
  | 2, _ => rfl
def lbD (N nl : Nat) : LbD := { b := N + 2, o := 0, n := nl, s := lblS }

/-- One configuration. -/
structure Side (H : Heap) (lv qv : V) (L : LbD) (Q : QsD) : Prop where
  lb : IsLb H lv L
  qs : IsQs H qv Q
  lt : L.b < H.next
  wq : Q.within 0 H.next
  cn : ∀ i, i < Q.n → Q.cn i ≤ 3
  ln : L.n ≤ 4
  qn : Q.n ≤ 16

theorem same_call {K : Nat} (hK : 1000 ≤ K) {H : Heap} (hn : H.lim0 ≤ H.next) (hl : H.lim ≤ H.next) {la qa lb qb : V} {LA LB : LbD} {QA QB : QsD} (sa : Side H la qa LA QA) (sb : Side H lb qb LB QB) :
    ∃ H', callC K 7 [.agg [la, qa], .agg [lb, qb]] H = some [(.bool (decide (LA.eqTo LB ∧ QA.eqTo QB)), H')] ∧ Grow H H' := by
  have h1 := sa.ln
  have h2 := sa.qn
  exact sam_ok (K := K) (C := 3) hn hl (by omega) sa.lb sb.lb sa.qs sb.qs (lo := 0) (lo' := 0) sa.lt sb.lt sa.wq sb.wq sa.cn

theorem Side.grow {H H' : Heap} {lv qv : V} {L : LbD} {Q : QsD} (s : Side H lv qv L Q) (g : Grow H H') : Side H' lv qv L Q :=
  { s with
    lb := s.lb.grow s.lt g
    qs := s.qs.grow s.wq g
    lt := Nat.lt_of_lt_of_le s.lt g.next
    wq := ⟨s.wq.1, Nat.lt_of_lt_of_le s.wq.2.1 g.next, fun i hi => ⟨(s.wq.2.2 i hi).1, Nat.lt_of_lt_of_le (s.wq.2.2 i hi).2 g.next⟩⟩ }

/-- Two that differ. -/
structure Fin (X : Nat) (e : Env) (H : Heap) (la qa lb qb : V) (LA LB : LbD) (QA QB : QsD) : Prop where
  t7 : e.get 7 = some (.ptr (some (X, 0)))
  t8 : e.get 8 = some (.ptr (some (X + 1, 0)))
  n0 : H.lim0 ≤ H.next
  l0 : H.lim ≤ H.next
  nx : X + 2 ≤ H.next
  rowX : H.row X = some (false, [la, qa])
  rowY : H.row (X + 1) = some (false, [lb, qb])
  sa : Side H la qa LA QA
  sb : Side H lb qb LB QB
  ne : ¬ (LA.eqTo LB ∧ QA.eqTo QB)
  ne' : ¬ (LB.eqTo LA ∧ QB.eqTo QA)

theorem eqAt_symm {d e : QsD} {i : Nat} (h : d.eqAt e i) : e.eqAt d i := ⟨h.1.symm, h.2.1.symm, h.2.2.1.symm, fun j hj => by
  have := h.2.2.2 j (by rw [h.2.2.1]; exact hj)
  exact ⟨this.1.symm, this.2.symm⟩⟩
theorem qs_symm {d e : QsD} (h : d.eqTo e) : e.eqTo d := ⟨h.1.symm, fun i hi => eqAt_symm (h.2 i (by rw [h.1]; exact hi))⟩
theorem lb_symm {d e : LbD} (h : d.eqTo e) : e.eqTo d := ⟨h.1.symm, fun i hi => (h.2 i (by rw [h.1]; exact hi)).symm⟩

/-- The end: both comparisons are false. -/
theorem cs_fin {K k : Nat} (hK : 1000 ≤ K) {X : Nat} {e : Env} {H : Heap} {la qa lb qb : V} {LA LB : LbD} {QA QB : QsD} (f : Fin X e H la qa lb qb LA LB QA QB) :
    R (execC Tryd.prog (callC K) (k + 10) 125 (.seq csc25 .ret) e H) fun o e _ => (∀ i, o ≠ .exit i) ∧ ∃ v, e.get 6 = some v ∧ v = .bool true := by
  obtain ⟨H1, hc1, g1⟩ := same_call hK f.n0 f.l0 f.sa f.sb
  obtain ⟨H2, hc2, g2⟩ := same_call hK (g1.ok0 f.n0) (g1.okl f.l0) (f.sb.grow g1) (f.sa.grow g1)
  rw [decide_eq_false f.ne] at hc1
  rw [decide_eq_false f.ne'] at hc2
  have nx := f.nx
  have rX := (g1.row X (by omega)).trans f.rowX
  have rY := (g1.row (X + 1) (by omega)).trans f.rowY
  refine C_seq (csr25 ?_)
  simp -implicitDefEqProofs only [wp_go, wp_open, wp_guard, wp_nil, guardK_tt, guardK_ff, guardK_tf, guardK_ft, sk_value, sk_skip, so_value, so_skip, put_some, put_none, so_move, so_assign, so_pick, pickS_true, pickS_false, s1_some, s2_some, so_load, so_store, so_bin, binS, so_un, so_fa, so_ix, so_box, ea, ep, sl1_some, sp1_some, so_builtin, so_call, callV_func, app_nil, so_build, so_buildSlice, so_slice, s4_some, eo_none, eo_map, so_alloc_30, so_alloc_36, so_alloc_38, valueS_some, heapS_some, skipS_some, bi_len, Option.map_some, PMap.get_set, Nat.reduceEqDiff, two, three, Bool.not_true, Bool.not_false, if_true, if_false, reduceIte, Nat.one_ne_zero, Nat.zero_ne_one, up_down, down_self, cell_up, cell_down, row_up, row_down, next_add, next_set, next_up, up_add_down, ic_str, ic_int, ic_op, ic_sl, next_var, thenC_n, thenC_x, thenC_r, thenR_n, thenR_x, thenR_r, blockR_n, blockR_r, blockR_x, Nat.zero_add, decide_true, decide_false, fa_24_0, fa_24_1, fa_30_0, fa_30_1, fa_36_0, fa_36_1, fa_36_2, fa_38_0, fa_38_1, fa_45_0, fa_45_1, fa_45_2, ld_3, ld_9, ld_22, ld_27, ld_28, ld_34, ld_43, ld_24, ld_30, ld_38, ld_36, eg_lss, eg_gtr, eg_leq, eg_add, eg_sub, eg_rem, eg_eql, egn_eql, egs_eql, eg_neq, egn_neq, egs_neq, egc, bo_lss, bo_gtr, bo_leq, bo_neq, bo_eqln, bo_eql, bo_lssi, bo_addi, bo_subi, bs_lss, bs_eql, bs_neq, bc_neq, uo_not, ec_0, ec_1, ec_2, ec_3, ec_4, ec_5, ec_6, ec_8, ec_16, ec_20, ec_10000, ec_10001, ec_1000000, ec_str, ec_bool, ec_nil, ec_tmp, ec_func, f.t7, f.t8, cell_row f.rowX, cell_row f.rowY, cell_row rX, cell_row rY, List.getElem?_cons_zero, List.getElem?_cons_succ, sk_call hc1, sk_call hc2]
  exact C_ret ⟨fun i => by simp, _, by simp -implicitDefEqProofs only [wp_go, wp_open, wp_guard, wp_nil, guardK_tt, guardK_ff, guardK_tf, guardK_ft, sk_value, sk_skip, so_value, so_skip, put_some, put_none, so_move, so_assign, so_pick, pickS_true, pickS_false, s1_some, s2_some, so_load, so_store, so_bin, binS, so_un, so_fa, so_ix, so_box, ea, ep, sl1_some, sp1_some, so_builtin, so_call, callV_func, app_nil, so_build, so_buildSlice, so_slice, s4_some, eo_none, eo_map, so_alloc_30, so_alloc_36, so_alloc_38, valueS_some, heapS_some, skipS_some, bi_len, Option.map_some, PMap.get_set, Nat.reduceEqDiff, two, three, Bool.not_true, Bool.not_false, if_true, if_false, reduceIte, Nat.one_ne_zero, Nat.zero_ne_one, up_down, down_self, cell_up, cell_down, row_up, row_down, next_add, next_set, next_up, up_add_down, ic_str, ic_int, ic_op, ic_sl, next_var, thenC_n, thenC_x, thenC_r, thenR_n, thenR_x, thenR_r, blockR_n, blockR_r, blockR_x, Nat.zero_add, decide_true, decide_false, fa_24_0, fa_24_1, fa_30_0, fa_30_1, fa_36_0, fa_36_1, fa_36_2, fa_38_0, fa_38_1, fa_45_0, fa_45_1, fa_45_2, ld_3, ld_9, ld_22, ld_27, ld_28, ld_34, ld_43, ld_24, ld_30, ld_38, ld_36, eg_lss, eg_gtr, eg_leq, eg_add, eg_sub, eg_rem, eg_eql, egn_eql, egs_eql, eg_neq, egn_neq, egs_neq, egc, bo_lss, bo_gtr, bo_leq, bo_neq, bo_eqln, bo_eql, bo_lssi, bo_addi, bo_subi, bs_lss, bs_eql, bs_neq, bc_neq, uo_not, ec_0, ec_1, ec_2, ec_3, ec_4, ec_5, ec_6, ec_8, ec_16, ec_20, ec_10000, ec_10001, ec_1000000, ec_str, ec_bool, ec_nil, ec_tmp, ec_func] <;> rfl, rfl⟩

/-- What stands before a change. -/
structure St (H : Heap) (NA NB X nl : Nat) (qa qb : V) (QA : QsD) (l : List It) : Prop where
  nl1 : 1 ≤ nl
  nl3 : nl ≤ 3
  ab : NA + 3 ≤ NB
  bx : NB + 3 ≤ X
  nx : X + 2 ≤ H.next
  lim : H.lim ≤ NB
  lim0 : H.lim0 ≤ NB
  rowX : H.row X = some (false, [labV NA nl, qa])
  rowY : H.row (X + 1) = some (false, [labV NB nl, qb])
  lbA : H.row (NA + 2) = some (false, lblRow)
  lbB : H.row (NB + 2) = some (false, lblRow)
  qA : IsQs H qa QA
  wA : QA.within (NA + 3) NB
  rep : (l = [] ∧ qb = .slice none 0 0) ∨ (l ≠ [] ∧ ∃ b, NB + 3 ≤ b ∧ b < X ∧ RepB b H qb l)
  caps : ∀ x ∈ l, ∃ b, NB + 3 ≤ b ∧ b < X ∧ x.cv = .oslice b 0 x.caps.length 2 ∧ H.row b = some (true, cflat x.caps)
  eq : QA.eqTo (QsD.of (NB + 3) qb l)
  len : l.length ≤ 16
  pl : ∀ x ∈ l, x.path.length ≤ 20
  cl : ∀ x ∈ l, x.caps.length = nl

section
variable {H : Heap} {NA NB X nl : Nat} {qa qb : V} {QA : QsD} {l : List It}

theorem St.ofB (s : St H NA NB X nl qa qb QA l) : IsQs H qb (QsD.of (NB + 3) qb l) ∧ (QsD.of (NB + 3) qb l).within (NB + 3) H.next := by
  have h1 := s.bx
  have h2 := s.nx
  have h3 := s.nl3
  refine of_ok (by omega) ?_ (fun x hx => ?_) s.len (fun x hx => by rw [s.cl x hx]; omega)
  · rcases s.rep with r | ⟨q1, b, q2, q3, q4⟩
    · exact .inl r
    · exact .inr ⟨q1, b, q2, by omega, q4⟩
  · obtain ⟨b, q2, q3, q4, q5⟩ := s.caps x hx
    refine .inr ⟨fun h0 => ?_, b, q2, by omega, q4, q5⟩
    have := s.cl x hx
    rw [h0] at this
    have := s.nl1
    simp at *
    omega

theorem St.sideA (s : St H NA NB X nl qa qb QA l) : Side H (labV NA nl) qa (lbD NA nl) QA := by
  have h0 := s.ab
  have h1 := s.bx
  have h2 := s.nx
  have h3 := s.nl3
  exact
    { lb := ⟨.sl _ _ _ _, by show nl < _; omega, fun i hi => by
        have hi : i < nl := hi
        show H.cell (NA + 2, 0 + i * 1) = _
        rw [Nat.zero_add, Nat.mul_one]
        exact (cell_row s.lbA i).trans (lbl_get (by omega))⟩
      qs := s.qA
      lt := by show NA + 2 < _; omega
      wq := ⟨Nat.zero_le _, by have := s.wA.2.1; omega, fun i hi => ⟨Nat.zero_le _, by have := (s.wA.2.2 i hi).2; omega⟩⟩
      cn := fun i hi => by
        have h5 := (s.eq.2 i hi).2.2.1
        have hi' : i < l.length := by have := s.eq.1; have h6 : (QsD.of (NB + 3) qb l).n = l.length := rfl; omega
        rw [h5, (of_get (List.getElem?_eq_getElem hi')).2.2.2.2, s.cl _ (List.getElem_mem hi')]
        exact s.nl3
      ln := by show nl ≤ 4; omega
      qn := by have := s.eq.1; have h6 : (QsD.of (NB + 3) qb l).n = l.length := rfl; have := s.len; omega }

/-- After a store to a block of the second one. -/
theorem Side.store {lv qv : V} {L : LbD} {Q : QsD} (s : Side H lv qv L Q) {b : Nat} (hb : H.lim0 ≤ b) (x : Blk) (hL : L.b ≠ b) (hQ : Q.b ≠ b) (hc : ∀ i, i < Q.n → Q.cb i ≠ b) : Side (H.set b x) lv qv L Q := by
  have hr : ∀ c, c ≠ b → (H.set b x).row c = H.row c := fun c hc => row_set_other hb hc
  exact
    { s with
      lb := s.lb.same (hr _ hL)
      qs :=
        { s.qs with
          pc := fun i hi => (cell_same (hr _ hQ) _).trans (s.qs.pc i hi)
          cc := fun i hi => (cell_same (hr _ hQ) _).trans (s.qs.cc i hi)
          uc := fun i hi => (cell_same (hr _ hQ) _).trans (s.qs.uc i hi)
          lc := fun i hi j hj => (cell_same (hr _ (hc i hi)) _).trans (s.qs.lc i hi j hj)
          mc := fun i hi j hj => (cell_same (hr _ (hc i hi)) _).trans (s.qs.mc i hi j hj) } }

theorem St.aStore (s : St H NA NB X nl qa qb QA l) {b : Nat} (hb : NB + 2 ≤ b) (x : Blk) : Side (H.set b x) (labV NA nl) qa (lbD NA nl) QA := by
  have h0 := s.ab
  have h1 := s.lim0
  refine s.sideA.store (by omega) x (by show NA + 2 ≠ _; omega) (by have := s.wA.2.1; omega) fun i hi => by have := (s.wA.2.2 i hi).2; omega

/-- The queues' row and the shares' are others. -/
theorem St.apart (s : St H NA NB X nl qa qb QA l) {b : Nat} (hr : H.row b = some (true, flat l)) {x y : It} (hx : x ∈ l) (hy : y ∈ l) {c : Nat} (hc : H.row c = some (true, cflat y.caps)) : c ≠ b := by
  intro e
  subst e
  rw [hr] at hc
  simp only [Option.some.injEq, Prod.mk.injEq, true_and] at hc
  have hnl := s.nl1
  have hcl := s.cl y hy
  cases hl : l with
  | nil => rw [hl] at hx; cases hx
  | cons z zs =>
    cases hcaps : y.caps with
    | nil => rw [hcaps] at hcl; simp at hcl; omega
    | cons p ps =>
      rw [hl, hcaps] at hc
      simp only [flat, It.cells, cflat, List.cons_append, List.cons.injEq] at hc
      cases hc.1


theorem St.fin (s : St H NA NB X nl qa qb QA l) {b : Nat} (hb : NB + 2 ≤ b) (hbX : b < X) (x : Blk) {e : Env} (t7 : e.get 7 = some (.ptr (some (X, 0)))) (t8 : e.get 8 = some (.ptr (some (X + 1, 0)))) {LB : LbD} {QB : QsD}
    (sb : Side (H.set b x) (labV NB nl) qb LB QB) (ne : ¬ ((lbD NA nl).eqTo LB ∧ QA.eqTo QB)) : Fin X e (H.set b x) (labV NA nl) qa (labV NB nl) qb (lbD NA nl) LB QA QB := by
  have h0 := s.lim0
  have h1 := s.lim
  have h2 := s.nx
  have h3 := s.bx
  exact
    { t7 := t7
      t8 := t8
      n0 := by show H.lim0 ≤ H.next; omega
      l0 := by show H.lim ≤ H.next; omega
      nx := s.nx
      rowX := (row_set_other (by omega) (by omega)).trans s.rowX
      rowY := (row_set_other (by omega) (by omega)).trans s.rowY
      sa := s.aStore hb x
      sb := sb
      ne := ne
      ne' := fun h => ne ⟨lb_symm h.1, qs_symm h.2⟩ }

theorem St.lbB' (s : St H NA NB X nl qa qb QA l) : IsLb H (labV NB nl) (lbD NB nl) := by
  have h3 := s.nl3
  exact ⟨.sl _ _ _ _, by show nl < _; omega, fun i hi => by
    have hi : i < nl := hi
    show H.cell (NB + 2, 0 + i * 1) = _
    rw [Nat.zero_add, Nat.mul_one]
    exact (cell_row s.lbB i).trans (lbl_get (by omega))⟩

theorem wrap_ne (u : Int) : wrapI .i64 (u + (1 : Nat)) ≠ u := by
  rw [wrapI_eq, IntKind.wrap_i64]; omega
theorem wrap_ne' (u : Int) : wrapI .i64 (u - (1 : Nat)) ≠ u := by
  rw [wrapI_eq, IntKind.wrap_i64]; omega

/-- The second one's queues: where they stand. -/
theorem St.at (s : St H NA NB X nl qa qb QA l) {k : Nat} (hk : k < l.length) : ∃ b, NB + 3 ≤ b ∧ b < X ∧ qb = .oslice b 0 l.length 3 ∧ H.row b = some (true, flat l) ∧ (QsD.of (NB + 3) qb l).b = b ∧ ∀ i, i < l.length → (QsD.of (NB + 3) qb l).cb i ≠ b ∧ NB + 3 ≤ (QsD.of (NB + 3) qb l).cb i ∧ (QsD.of (NB + 3) qb l).cb i < X ∧
    (∃ y, y ∈ l ∧ l[i]? = some y ∧ y.cv = .oslice ((QsD.of (NB + 3) qb l).cb i) 0 nl 2 ∧ H.row ((QsD.of (NB + 3) qb l).cb i) = some (true, cflat y.caps) ∧ y.caps.length = nl) := by
  rcases s.rep with ⟨h1, -⟩ | ⟨h1, b, q2, q3, q4, q5⟩
  · subst h1; simp at hk
  · refine ⟨b, q2, q3, q4, q5, by rw [q4]; rfl, fun i hi => ?_⟩
    have hx := List.getElem?_eq_getElem hi
    have hm := List.getElem_mem hi
    obtain ⟨c, p1, p2, p3, p4⟩ := s.caps _ hm
    have e : (QsD.of (NB + 3) qb l).cb i = c := by rw [(of_get hx).2.2.2.1, p3]; rfl
    rw [e]
    exact ⟨s.apart q5 hm hm p4, p1, p2, _, hm, hx, by rw [p3, s.cl _ hm], p4, s.cl _ hm⟩

/-- A number's or a name's cell of one queue. -/
theorem St.userB (s : St H NA NB X nl qa qb QA l) {k : Nat} (hk : k < l.length) {b : Nat} (hb1 : NB + 3 ≤ b) (hb2 : b < X) (hqb : qb = .oslice b 0 l.length 3) (hr : H.row b = some (true, flat l)) (hne : ∀ i, i < l.length → (QsD.of (NB + 3) qb l).cb i ≠ b) (u : Int) :
    Side (H.set b (.row true (splice (flat l) (k * 3 + 2) [.int .i64 u]))) (labV NB nl) qb (lbD NB nl) { QsD.of (NB + 3) qb l with us := fun i => if i = k then u else (QsD.of (NB + 3) qb l).us i } := by
  have h0 := s.lim0
  have h1 := s.bx
  have h2 := s.nx
  have h3 := s.nl3
  obtain ⟨q, w⟩ := s.ofB
  have hB : (QsD.of (NB + 3) qb l).b = b := by rw [hqb]; rfl
  have hcell := cell_store (v := .int .i64 u) hr (by omega) (show k * 3 + 2 < (flat l).length by rw [flat_length]; omega)
  exact
    { lb := s.lbB'.same (row_set_other (by omega) (by show NB + 2 ≠ b; omega))
      qs :=
        { sl := q.sl
          small := q.small
          pc := fun i hi => by rw [hcell, if_neg (by show ¬ (_ ∧ 0 + i * 3 = _); omega)]; exact q.pc i hi
          cc := fun i hi => by rw [hcell, if_neg (by show ¬ (_ ∧ 0 + i * 3 + 1 = _); omega)]; exact q.cc i hi
          uc := fun i hi => by
            rw [hcell]
            by_cases hik : i = k
            · rw [if_pos ⟨hB, by show 0 + i * 3 + 2 = _; omega⟩]
              simp only [hik, if_true]
            · rw [if_neg (by show ¬ (_ ∧ 0 + i * 3 + 2 = _); omega)]
              simp only [hik, if_false]
              exact q.uc i hi
          iscell := q.iscell
          cs := q.cs
          csmall := q.csmall
          lc := fun i hi j hj => by rw [hcell, if_neg (fun h => hne i hi h.1)]; exact q.lc i hi j hj
          mc := fun i hi j hj => by rw [hcell, if_neg (fun h => hne i hi h.1)]; exact q.mc i hi j hj }
      lt := by show NB + 2 < H.next; omega
      wq := ⟨Nat.zero_le _, w.2.1, fun i hi => ⟨Nat.zero_le _, (w.2.2 i hi).2⟩⟩
      cn := fun i hi => by
        have hi : i < l.length := hi
        show (QsD.of (NB + 3) qb l).cn i ≤ 3
        rw [(of_get (List.getElem?_eq_getElem hi)).2.2.2.2, s.cl _ (List.getElem_mem hi)]
        omega
      ln := by show nl ≤ 4; omega
      qn := s.len }

theorem St.pathB (s : St H NA NB X nl qa qb QA l) {k : Nat} (hk : k < l.length) {b : Nat} (hb1 : NB + 3 ≤ b) (hb2 : b < X) (hqb : qb = .oslice b 0 l.length 3) (hr : H.row b = some (true, flat l)) (hne : ∀ i, i < l.length → (QsD.of (NB + 3) qb l).cb i ≠ b) (u : List UInt8) :
    Side (H.set b (.row true (splice (flat l) (k * 3) [.str u]))) (labV NB nl) qb (lbD NB nl) { QsD.of (NB + 3) qb l with path := fun i => if i = k then u else (QsD.of (NB + 3) qb l).path i } := by
  have h0 := s.lim0
  have h1 := s.bx
  have h2 := s.nx
  have h3 := s.nl3
  obtain ⟨q, w⟩ := s.ofB
  have hB : (QsD.of (NB + 3) qb l).b = b := by rw [hqb]; rfl
  have hcell := cell_store (v := .str u) hr (by omega) (show k * 3 < (flat l).length by rw [flat_length]; omega)
  exact
    { lb := s.lbB'.same (row_set_other (by omega) (by show NB + 2 ≠ b; omega))
      qs :=
        { sl := q.sl
          small := q.small
          uc := fun i hi => by rw [hcell, if_neg (by show ¬ (_ ∧ 0 + i * 3 + 2 = _); omega)]; exact q.uc i hi
          cc := fun i hi => by rw [hcell, if_neg (by show ¬ (_ ∧ 0 + i * 3 + 1 = _); omega)]; exact q.cc i hi
          pc := fun i hi => by
            rw [hcell]
            by_cases hik : i = k
            · rw [if_pos ⟨hB, by show 0 + i * 3 = _; omega⟩]
              simp only [hik, if_true]
            · rw [if_neg (by show ¬ (_ ∧ 0 + i * 3 = _); omega)]
              simp only [hik, if_false]
              exact q.pc i hi
          iscell := q.iscell
          cs := q.cs
          csmall := q.csmall
          lc := fun i hi j hj => by rw [hcell, if_neg (fun h => hne i hi h.1)]; exact q.lc i hi j hj
          mc := fun i hi j hj => by rw [hcell, if_neg (fun h => hne i hi h.1)]; exact q.mc i hi j hj }
      lt := by show NB + 2 < H.next; omega
      wq := ⟨Nat.zero_le _, w.2.1, fun i hi => ⟨Nat.zero_le _, (w.2.2 i hi).2⟩⟩
      cn := fun i hi => by
        have hi : i < l.length := hi
        show (QsD.of (NB + 3) qb l).cn i ≤ 3
        rw [(of_get (List.getElem?_eq_getElem hi)).2.2.2.2, s.cl _ (List.getElem_mem hi)]
        omega
      ln := by show nl ≤ 4; omega
      qn := s.len }

/-- A share's cell. -/
theorem St.capB (s : St H NA NB X nl qa qb QA l) {c : Nat} (hc1 : NB + 3 ≤ c) (hc2 : c < X) {cs : List (Nat × Nat)} (hr : H.row c = some (true, cflat cs)) (hlen : cs.length = nl) (hne : (QsD.of (NB + 3) qb l).b ≠ c ∨ l = []) (u : Int) {off : Nat} (ho : off < 2) :
    Side (H.set c (.row true (splice (cflat cs) off [.int .i64 u]))) (labV NB nl) qb (lbD NB nl) { QsD.of (NB + 3) qb l with
      lv := fun i j => if (QsD.of (NB + 3) qb l).cb i = c ∧ 0 + j * 2 = off then u else (QsD.of (NB + 3) qb l).lv i j
      mv := fun i j => if (QsD.of (NB + 3) qb l).cb i = c ∧ 0 + j * 2 + 1 = off then u else (QsD.of (NB + 3) qb l).mv i j } := by
  have h0 := s.lim0
  have h1 := s.bx
  have h2 := s.nx
  have h3 := s.nl3
  have h4 := s.nl1
  obtain ⟨q, w⟩ := s.ofB
  have hcell := cell_store (v := .int .i64 u) hr (by omega) (show off < (cflat cs).length by rw [cflat_length]; omega)
  have hB : ∀ i, i < l.length → (QsD.of (NB + 3) qb l).b ≠ c := fun i hi => by
    rcases hne with h | h
    · exact h
    · subst h; simp at hi
  exact
    { lb := s.lbB'.same (row_set_other (by omega) (by show NB + 2 ≠ c; omega))
      qs :=
        { sl := q.sl
          small := q.small
          uc := fun i hi => by rw [hcell, if_neg (fun h => hB i hi h.1)]; exact q.uc i hi
          cc := fun i hi => by rw [hcell, if_neg (fun h => hB i hi h.1)]; exact q.cc i hi
          pc := fun i hi => by rw [hcell, if_neg (fun h => hB i hi h.1)]; exact q.pc i hi
          iscell := q.iscell
          cs := q.cs
          csmall := q.csmall
          lc := fun i hi j hj => by
            rw [hcell]
            show (if (QsD.of (NB + 3) qb l).cb i = c ∧ 0 + j * 2 = off then _ else _) = some (V.int .i64 (if (QsD.of (NB + 3) qb l).cb i = c ∧ 0 + j * 2 = off then u else (QsD.of (NB + 3) qb l).lv i j))
            split
            · rfl
            · exact q.lc i hi j hj
          mc := fun i hi j hj => by
            rw [hcell]
            show (if (QsD.of (NB + 3) qb l).cb i = c ∧ 0 + j * 2 + 1 = off then _ else _) = some (V.int .i64 (if (QsD.of (NB + 3) qb l).cb i = c ∧ 0 + j * 2 + 1 = off then u else (QsD.of (NB + 3) qb l).mv i j))
            split
            · rfl
            · exact q.mc i hi j hj }
      lt := by show NB + 2 < H.next; omega
      wq := ⟨Nat.zero_le _, w.2.1, fun i hi => ⟨Nat.zero_le _, (w.2.2 i hi).2⟩⟩
      cn := fun i hi => by
        have hi : i < l.length := hi
        show (QsD.of (NB + 3) qb l).cn i ≤ 3
        rw [(of_get (List.getElem?_eq_getElem hi)).2.2.2.2, s.cl _ (List.getElem_mem hi)]
        omega
      ln := by show nl ≤ 4; omega
      qn := s.len }

end
end Go.Proofs.YtaliknnfbjehhaaDoor.CS
