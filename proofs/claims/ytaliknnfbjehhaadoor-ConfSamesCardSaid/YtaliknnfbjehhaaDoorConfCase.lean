/-
  ConfSames: the six changes, step by step.
-/
import Derived.Test.YtaliknnfbjehhaaDoorConfMut
set_option linter.all false
namespace Go.Proofs.YtaliknnfbjehhaaDoor.CS
open Go.Abs Go.RowKit Go.Proofs
set_option maxRecDepth 100000

section
variable {H : Heap} {NA NB X nl : Nat} {qa qb : V} {QA : QsD} {l : List It} {K k : Nat} {e : Env} {i : Nat}

/-- The state after a change. -/
def Chg (X : Nat) (e : Env) (H : Heap) : Prop := ∃ la qa lb qb LA LB QA QB, Fin X e H la qa lb qb LA LB QA QB

theorem case0 (s : St H NA NB X nl qa qb QA l) (hi : i < l.length) (t7 : e.get 7 = some (.ptr (some (X, 0)))) (t8 : e.get 8 = some (.ptr (some (X + 1, 0)))) (t9 : e.get 9 = some (nI i)) :
    R (execC Tryd.prog (callC K) (k + 1) 125 csc14 e H) fun o e H => o = .normal ∧ Chg X e H := by
  obtain ⟨b, hb1, hb2, hqb, hr, hB, hall⟩ := s.at hi
  have hx := List.getElem?_eq_getElem hi
  have hlim := s.lim
  obtain ⟨-, -, c2⟩ := flat_get l i _ hx
  have c2 := (cell_row hr _).trans c2
  have hsl : Sl qb b 0 l.length := by rw [hqb]; exact .op _ _ _ _
  have hst := store_row (new := [.int .i64 (wrapI .i64 (l[i].us + (1 : Nat)))]) hr (by omega) rfl (show i * 3 + 2 + 1 ≤ (flat l).length by rw [flat_length]; omega)
  refine csr14 ?_
  simp -implicitDefEqProofs only [wp_go, wp_open, wp_guard, wp_nil, guardK_tt, guardK_ff, guardK_tf, guardK_ft, sk_value, sk_skip, so_value, so_skip, put_some, put_none, so_move, so_assign, so_pick, pickS_true, pickS_false, s1_some, s2_some, so_load, so_store, so_bin, binS, so_un, so_fa, so_ix, so_box, ea, ep, sl1_some, sp1_some, so_builtin, so_call, callV_func, app_nil, so_build, so_buildSlice, so_slice, s4_some, eo_none, eo_map, so_alloc_30, so_alloc_36, so_alloc_38, valueS_some, heapS_some, skipS_some, bi_len, Option.map_some, PMap.get_set, Nat.reduceEqDiff, two, three, Bool.not_true, Bool.not_false, if_true, if_false, reduceIte, Nat.one_ne_zero, Nat.zero_ne_one, up_down, down_self, cell_up, cell_down, row_up, row_down, next_add, next_set, next_up, up_add_down, ic_str, ic_int, ic_op, ic_sl, next_var, thenC_n, thenC_x, thenC_r, thenR_n, thenR_x, thenR_r, blockR_n, blockR_r, blockR_x, Nat.zero_add, decide_true, decide_false, fa_24_0, fa_24_1, fa_30_0, fa_30_1, fa_36_0, fa_36_1, fa_36_2, fa_38_0, fa_38_1, fa_45_0, fa_45_1, fa_45_2, ld_3, ld_9, ld_22, ld_27, ld_28, ld_34, ld_43, ld_24, ld_30, ld_38, ld_36, eg_lss, eg_gtr, eg_leq, eg_add, eg_sub, eg_rem, eg_eql, egn_eql, egs_eql, eg_neq, egn_neq, egs_neq, egc, bo_lss, bo_gtr, bo_leq, bo_neq, bo_eqln, bo_eql, bo_lssi, bo_addi, bo_subi, bs_lss, bs_eql, bs_neq, bc_neq, uo_not, ec_0, ec_1, ec_2, ec_3, ec_4, ec_5, ec_6, ec_8, ec_16, ec_20, ec_10000, ec_10001, ec_1000000, ec_str, ec_bool, ec_nil, ec_tmp, ec_func, t8, t9, cell_row s.rowY, List.getElem?_cons_zero, List.getElem?_cons_succ, ix_28 hsl hi, c2, st_3, hst]
  refine ⟨trivial, _, _, _, _, _, _, _, _, s.fin (by omega) hb2 _ (by simp -implicitDefEqProofs only [wp_go, wp_open, wp_guard, wp_nil, guardK_tt, guardK_ff, guardK_tf, guardK_ft, sk_value, sk_skip, so_value, so_skip, put_some, put_none, so_move, so_assign, so_pick, pickS_true, pickS_false, s1_some, s2_some, so_load, so_store, so_bin, binS, so_un, so_fa, so_ix, so_box, ea, ep, sl1_some, sp1_some, so_builtin, so_call, callV_func, app_nil, so_build, so_buildSlice, so_slice, s4_some, eo_none, eo_map, so_alloc_30, so_alloc_36, so_alloc_38, valueS_some, heapS_some, skipS_some, bi_len, Option.map_some, PMap.get_set, Nat.reduceEqDiff, two, three, Bool.not_true, Bool.not_false, if_true, if_false, reduceIte, Nat.one_ne_zero, Nat.zero_ne_one, up_down, down_self, cell_up, cell_down, row_up, row_down, next_add, next_set, next_up, up_add_down, ic_str, ic_int, ic_op, ic_sl, next_var, thenC_n, thenC_x, thenC_r, thenR_n, thenR_x, thenR_r, blockR_n, blockR_r, blockR_x, Nat.zero_add, decide_true, decide_false, fa_24_0, fa_24_1, fa_30_0, fa_30_1, fa_36_0, fa_36_1, fa_36_2, fa_38_0, fa_38_1, fa_45_0, fa_45_1, fa_45_2, ld_3, ld_9, ld_22, ld_27, ld_28, ld_34, ld_43, ld_24, ld_30, ld_38, ld_36, eg_lss, eg_gtr, eg_leq, eg_add, eg_sub, eg_rem, eg_eql, egn_eql, egs_eql, eg_neq, egn_neq, egs_neq, egc, bo_lss, bo_gtr, bo_leq, bo_neq, bo_eqln, bo_eql, bo_lssi, bo_addi, bo_subi, bs_lss, bs_eql, bs_neq, bc_neq, uo_not, ec_0, ec_1, ec_2, ec_3, ec_4, ec_5, ec_6, ec_8, ec_16, ec_20, ec_10000, ec_10001, ec_1000000, ec_str, ec_bool, ec_nil, ec_tmp, ec_func, t7]) (by simp -implicitDefEqProofs only [wp_go, wp_open, wp_guard, wp_nil, guardK_tt, guardK_ff, guardK_tf, guardK_ft, sk_value, sk_skip, so_value, so_skip, put_some, put_none, so_move, so_assign, so_pick, pickS_true, pickS_false, s1_some, s2_some, so_load, so_store, so_bin, binS, so_un, so_fa, so_ix, so_box, ea, ep, sl1_some, sp1_some, so_builtin, so_call, callV_func, app_nil, so_build, so_buildSlice, so_slice, s4_some, eo_none, eo_map, so_alloc_30, so_alloc_36, so_alloc_38, valueS_some, heapS_some, skipS_some, bi_len, Option.map_some, PMap.get_set, Nat.reduceEqDiff, two, three, Bool.not_true, Bool.not_false, if_true, if_false, reduceIte, Nat.one_ne_zero, Nat.zero_ne_one, up_down, down_self, cell_up, cell_down, row_up, row_down, next_add, next_set, next_up, up_add_down, ic_str, ic_int, ic_op, ic_sl, next_var, thenC_n, thenC_x, thenC_r, thenR_n, thenR_x, thenR_r, blockR_n, blockR_r, blockR_x, Nat.zero_add, decide_true, decide_false, fa_24_0, fa_24_1, fa_30_0, fa_30_1, fa_36_0, fa_36_1, fa_36_2, fa_38_0, fa_38_1, fa_45_0, fa_45_1, fa_45_2, ld_3, ld_9, ld_22, ld_27, ld_28, ld_34, ld_43, ld_24, ld_30, ld_38, ld_36, eg_lss, eg_gtr, eg_leq, eg_add, eg_sub, eg_rem, eg_eql, egn_eql, egs_eql, eg_neq, egn_neq, egs_neq, egc, bo_lss, bo_gtr, bo_leq, bo_neq, bo_eqln, bo_eql, bo_lssi, bo_addi, bo_subi, bs_lss, bs_eql, bs_neq, bc_neq, uo_not, ec_0, ec_1, ec_2, ec_3, ec_4, ec_5, ec_6, ec_8, ec_16, ec_20, ec_10000, ec_10001, ec_1000000, ec_str, ec_bool, ec_nil, ec_tmp, ec_func, t8]) (s.userB hi hb1 hb2 hqb hr (fun j hj => (hall j hj).1) _) fun h => ?_⟩
  have h1 := (h.2.2 i (by rw [s.eq.1]; exact hi)).2.1
  have h2 := (s.eq.2 i (by rw [s.eq.1]; exact hi)).2.1
  simp only [if_true] at h1
  rw [h2, (of_get hx).2.2.1] at h1
  exact wrap_ne _ h1.symm

theorem case1 (s : St H NA NB X nl qa qb QA l) (hi : i < l.length) (t7 : e.get 7 = some (.ptr (some (X, 0)))) (t8 : e.get 8 = some (.ptr (some (X + 1, 0)))) (t9 : e.get 9 = some (nI i)) :
    R (execC Tryd.prog (callC K) (k + 1) 125 csc16 e H) fun o e H => o = .normal ∧ Chg X e H := by
  obtain ⟨b, hb1, hb2, hqb, hr, hB, hall⟩ := s.at hi
  have hx := List.getElem?_eq_getElem hi
  have hlim := s.lim
  have hpl := s.pl _ (List.getElem_mem hi)
  obtain ⟨c0, -, -⟩ := flat_get l i _ hx
  have c0 := (cell_row hr _).trans c0
  have hsl : Sl qb b 0 l.length := by rw [hqb]; exact .op _ _ _ _
  have hst := store_row (new := [.str (l[i].path ++ [122])]) hr (by omega) rfl (show i * 3 + 1 ≤ (flat l).length by rw [flat_length]; omega)
  refine csr16 ?_
  simp -implicitDefEqProofs only [wp_go, wp_open, wp_guard, wp_nil, guardK_tt, guardK_ff, guardK_tf, guardK_ft, sk_value, sk_skip, so_value, so_skip, put_some, put_none, so_move, so_assign, so_pick, pickS_true, pickS_false, s1_some, s2_some, so_load, so_store, so_bin, binS, so_un, so_fa, so_ix, so_box, ea, ep, sl1_some, sp1_some, so_builtin, so_call, callV_func, app_nil, so_build, so_buildSlice, so_slice, s4_some, eo_none, eo_map, so_alloc_30, so_alloc_36, so_alloc_38, valueS_some, heapS_some, skipS_some, bi_len, Option.map_some, PMap.get_set, Nat.reduceEqDiff, two, three, Bool.not_true, Bool.not_false, if_true, if_false, reduceIte, Nat.one_ne_zero, Nat.zero_ne_one, up_down, down_self, cell_up, cell_down, row_up, row_down, next_add, next_set, next_up, up_add_down, ic_str, ic_int, ic_op, ic_sl, next_var, thenC_n, thenC_x, thenC_r, thenR_n, thenR_x, thenR_r, blockR_n, blockR_r, blockR_x, Nat.zero_add, decide_true, decide_false, fa_24_0, fa_24_1, fa_30_0, fa_30_1, fa_36_0, fa_36_1, fa_36_2, fa_38_0, fa_38_1, fa_45_0, fa_45_1, fa_45_2, ld_3, ld_9, ld_22, ld_27, ld_28, ld_34, ld_43, ld_24, ld_30, ld_38, ld_36, eg_lss, eg_gtr, eg_leq, eg_add, eg_sub, eg_rem, eg_eql, egn_eql, egs_eql, eg_neq, egn_neq, egs_neq, egc, bo_lss, bo_gtr, bo_leq, bo_neq, bo_eqln, bo_eql, bo_lssi, bo_addi, bo_subi, bs_lss, bs_eql, bs_neq, bc_neq, uo_not, ec_0, ec_1, ec_2, ec_3, ec_4, ec_5, ec_6, ec_8, ec_16, ec_20, ec_10000, ec_10001, ec_1000000, ec_str, ec_bool, ec_nil, ec_tmp, ec_func, t8, t9, cell_row s.rowY, List.getElem?_cons_zero, List.getElem?_cons_succ, ix_28 hsl hi, c0, add_str (show l[i].path.length + [122].length < 1000 by simp only [List.length_singleton]; omega), st_9, hst]
  refine ⟨trivial, _, _, _, _, _, _, _, _, s.fin (by omega) hb2 _ (by simp -implicitDefEqProofs only [wp_go, wp_open, wp_guard, wp_nil, guardK_tt, guardK_ff, guardK_tf, guardK_ft, sk_value, sk_skip, so_value, so_skip, put_some, put_none, so_move, so_assign, so_pick, pickS_true, pickS_false, s1_some, s2_some, so_load, so_store, so_bin, binS, so_un, so_fa, so_ix, so_box, ea, ep, sl1_some, sp1_some, so_builtin, so_call, callV_func, app_nil, so_build, so_buildSlice, so_slice, s4_some, eo_none, eo_map, so_alloc_30, so_alloc_36, so_alloc_38, valueS_some, heapS_some, skipS_some, bi_len, Option.map_some, PMap.get_set, Nat.reduceEqDiff, two, three, Bool.not_true, Bool.not_false, if_true, if_false, reduceIte, Nat.one_ne_zero, Nat.zero_ne_one, up_down, down_self, cell_up, cell_down, row_up, row_down, next_add, next_set, next_up, up_add_down, ic_str, ic_int, ic_op, ic_sl, next_var, thenC_n, thenC_x, thenC_r, thenR_n, thenR_x, thenR_r, blockR_n, blockR_r, blockR_x, Nat.zero_add, decide_true, decide_false, fa_24_0, fa_24_1, fa_30_0, fa_30_1, fa_36_0, fa_36_1, fa_36_2, fa_38_0, fa_38_1, fa_45_0, fa_45_1, fa_45_2, ld_3, ld_9, ld_22, ld_27, ld_28, ld_34, ld_43, ld_24, ld_30, ld_38, ld_36, eg_lss, eg_gtr, eg_leq, eg_add, eg_sub, eg_rem, eg_eql, egn_eql, egs_eql, eg_neq, egn_neq, egs_neq, egc, bo_lss, bo_gtr, bo_leq, bo_neq, bo_eqln, bo_eql, bo_lssi, bo_addi, bo_subi, bs_lss, bs_eql, bs_neq, bc_neq, uo_not, ec_0, ec_1, ec_2, ec_3, ec_4, ec_5, ec_6, ec_8, ec_16, ec_20, ec_10000, ec_10001, ec_1000000, ec_str, ec_bool, ec_nil, ec_tmp, ec_func, t7]) (by simp -implicitDefEqProofs only [wp_go, wp_open, wp_guard, wp_nil, guardK_tt, guardK_ff, guardK_tf, guardK_ft, sk_value, sk_skip, so_value, so_skip, put_some, put_none, so_move, so_assign, so_pick, pickS_true, pickS_false, s1_some, s2_some, so_load, so_store, so_bin, binS, so_un, so_fa, so_ix, so_box, ea, ep, sl1_some, sp1_some, so_builtin, so_call, callV_func, app_nil, so_build, so_buildSlice, so_slice, s4_some, eo_none, eo_map, so_alloc_30, so_alloc_36, so_alloc_38, valueS_some, heapS_some, skipS_some, bi_len, Option.map_some, PMap.get_set, Nat.reduceEqDiff, two, three, Bool.not_true, Bool.not_false, if_true, if_false, reduceIte, Nat.one_ne_zero, Nat.zero_ne_one, up_down, down_self, cell_up, cell_down, row_up, row_down, next_add, next_set, next_up, up_add_down, ic_str, ic_int, ic_op, ic_sl, next_var, thenC_n, thenC_x, thenC_r, thenR_n, thenR_x, thenR_r, blockR_n, blockR_r, blockR_x, Nat.zero_add, decide_true, decide_false, fa_24_0, fa_24_1, fa_30_0, fa_30_1, fa_36_0, fa_36_1, fa_36_2, fa_38_0, fa_38_1, fa_45_0, fa_45_1, fa_45_2, ld_3, ld_9, ld_22, ld_27, ld_28, ld_34, ld_43, ld_24, ld_30, ld_38, ld_36, eg_lss, eg_gtr, eg_leq, eg_add, eg_sub, eg_rem, eg_eql, egn_eql, egs_eql, eg_neq, egn_neq, egs_neq, egc, bo_lss, bo_gtr, bo_leq, bo_neq, bo_eqln, bo_eql, bo_lssi, bo_addi, bo_subi, bs_lss, bs_eql, bs_neq, bc_neq, uo_not, ec_0, ec_1, ec_2, ec_3, ec_4, ec_5, ec_6, ec_8, ec_16, ec_20, ec_10000, ec_10001, ec_1000000, ec_str, ec_bool, ec_nil, ec_tmp, ec_func, t8]) (s.pathB hi hb1 hb2 hqb hr (fun j hj => (hall j hj).1) _) fun h => ?_⟩
  have h1 := (h.2.2 i (by rw [s.eq.1]; exact hi)).1
  have h2 := (s.eq.2 i (by rw [s.eq.1]; exact hi)).1
  simp only [if_true] at h1
  rw [h2, (of_get hx).1] at h1
  have := congrArg List.length h1
  rw [List.length_append] at this
  simp only [List.length_singleton] at this
  omega

theorem case2 (s : St H NA NB X nl qa qb QA l) (hi : i < l.length) (t7 : e.get 7 = some (.ptr (some (X, 0)))) (t8 : e.get 8 = some (.ptr (some (X + 1, 0)))) (t9 : e.get 9 = some (nI i)) :
    R (execC Tryd.prog (callC K) (k + 1) 125 csc18 e H) fun o e H => o = .normal ∧ Chg X e H := by
  obtain ⟨b, hb1, hb2, hqb, hr, hB, hall⟩ := s.at hi
  obtain ⟨hne, hc1, hc2, y, hy, hx, hcv, hrc, hcl⟩ := hall i hi
  have hlim := s.lim
  have hnl := s.nl1
  obtain ⟨-, c1, -⟩ := flat_get l i _ hx
  have c1 := (cell_row hr _).trans c1
  have hsl : Sl qb b 0 l.length := by rw [hqb]; exact .op _ _ _ _
  have hsc : Sl y.cv ((QsD.of (NB + 3) qb l).cb i) 0 nl := by rw [hcv]; exact .op _ _ _ _
  have hy0 : y.caps[0]? = some y.caps[0] := List.getElem?_eq_getElem (by omega)
  have d0 : H.cell ((QsD.of (NB + 3) qb l).cb i, 0 * 2) = some (.int .i64 (Int.ofNat y.caps[0].1)) := (cell_row hrc _).trans (cflat_get y.caps 0 _ hy0).1
  have hst := store_row (off := 0 * 2) (new := [.int .i64 (wrapI .i64 (Int.ofNat y.caps[0].1 + (1 : Nat)))]) hrc (by omega) rfl (show 0 * 2 + 1 ≤ (cflat y.caps).length by rw [cflat_length]; omega)
  refine csr18 ?_
  simp -implicitDefEqProofs only [wp_go, wp_open, wp_guard, wp_nil, guardK_tt, guardK_ff, guardK_tf, guardK_ft, sk_value, sk_skip, so_value, so_skip, put_some, put_none, so_move, so_assign, so_pick, pickS_true, pickS_false, s1_some, s2_some, so_load, so_store, so_bin, binS, so_un, so_fa, so_ix, so_box, ea, ep, sl1_some, sp1_some, so_builtin, so_call, callV_func, app_nil, so_build, so_buildSlice, so_slice, s4_some, eo_none, eo_map, so_alloc_30, so_alloc_36, so_alloc_38, valueS_some, heapS_some, skipS_some, bi_len, Option.map_some, PMap.get_set, Nat.reduceEqDiff, two, three, Bool.not_true, Bool.not_false, if_true, if_false, reduceIte, Nat.one_ne_zero, Nat.zero_ne_one, up_down, down_self, cell_up, cell_down, row_up, row_down, next_add, next_set, next_up, up_add_down, ic_str, ic_int, ic_op, ic_sl, next_var, thenC_n, thenC_x, thenC_r, thenR_n, thenR_x, thenR_r, blockR_n, blockR_r, blockR_x, Nat.zero_add, decide_true, decide_false, fa_24_0, fa_24_1, fa_30_0, fa_30_1, fa_36_0, fa_36_1, fa_36_2, fa_38_0, fa_38_1, fa_45_0, fa_45_1, fa_45_2, ld_3, ld_9, ld_22, ld_27, ld_28, ld_34, ld_43, ld_24, ld_30, ld_38, ld_36, eg_lss, eg_gtr, eg_leq, eg_add, eg_sub, eg_rem, eg_eql, egn_eql, egs_eql, eg_neq, egn_neq, egs_neq, egc, bo_lss, bo_gtr, bo_leq, bo_neq, bo_eqln, bo_eql, bo_lssi, bo_addi, bo_subi, bs_lss, bs_eql, bs_neq, bc_neq, uo_not, ec_0, ec_1, ec_2, ec_3, ec_4, ec_5, ec_6, ec_8, ec_16, ec_20, ec_10000, ec_10001, ec_1000000, ec_str, ec_bool, ec_nil, ec_tmp, ec_func, t8, t9, cell_row s.rowY, List.getElem?_cons_zero, List.getElem?_cons_succ, ix_28 hsl hi, c1, ix_34 hsc (show 0 < nl by omega), d0, st_3, hst]
  refine ⟨trivial, _, _, _, _, _, _, _, _, s.fin (by omega) hc2 _ (by simp -implicitDefEqProofs only [wp_go, wp_open, wp_guard, wp_nil, guardK_tt, guardK_ff, guardK_tf, guardK_ft, sk_value, sk_skip, so_value, so_skip, put_some, put_none, so_move, so_assign, so_pick, pickS_true, pickS_false, s1_some, s2_some, so_load, so_store, so_bin, binS, so_un, so_fa, so_ix, so_box, ea, ep, sl1_some, sp1_some, so_builtin, so_call, callV_func, app_nil, so_build, so_buildSlice, so_slice, s4_some, eo_none, eo_map, so_alloc_30, so_alloc_36, so_alloc_38, valueS_some, heapS_some, skipS_some, bi_len, Option.map_some, PMap.get_set, Nat.reduceEqDiff, two, three, Bool.not_true, Bool.not_false, if_true, if_false, reduceIte, Nat.one_ne_zero, Nat.zero_ne_one, up_down, down_self, cell_up, cell_down, row_up, row_down, next_add, next_set, next_up, up_add_down, ic_str, ic_int, ic_op, ic_sl, next_var, thenC_n, thenC_x, thenC_r, thenR_n, thenR_x, thenR_r, blockR_n, blockR_r, blockR_x, Nat.zero_add, decide_true, decide_false, fa_24_0, fa_24_1, fa_30_0, fa_30_1, fa_36_0, fa_36_1, fa_36_2, fa_38_0, fa_38_1, fa_45_0, fa_45_1, fa_45_2, ld_3, ld_9, ld_22, ld_27, ld_28, ld_34, ld_43, ld_24, ld_30, ld_38, ld_36, eg_lss, eg_gtr, eg_leq, eg_add, eg_sub, eg_rem, eg_eql, egn_eql, egs_eql, eg_neq, egn_neq, egs_neq, egc, bo_lss, bo_gtr, bo_leq, bo_neq, bo_eqln, bo_eql, bo_lssi, bo_addi, bo_subi, bs_lss, bs_eql, bs_neq, bc_neq, uo_not, ec_0, ec_1, ec_2, ec_3, ec_4, ec_5, ec_6, ec_8, ec_16, ec_20, ec_10000, ec_10001, ec_1000000, ec_str, ec_bool, ec_nil, ec_tmp, ec_func, t7]) (by simp -implicitDefEqProofs only [wp_go, wp_open, wp_guard, wp_nil, guardK_tt, guardK_ff, guardK_tf, guardK_ft, sk_value, sk_skip, so_value, so_skip, put_some, put_none, so_move, so_assign, so_pick, pickS_true, pickS_false, s1_some, s2_some, so_load, so_store, so_bin, binS, so_un, so_fa, so_ix, so_box, ea, ep, sl1_some, sp1_some, so_builtin, so_call, callV_func, app_nil, so_build, so_buildSlice, so_slice, s4_some, eo_none, eo_map, so_alloc_30, so_alloc_36, so_alloc_38, valueS_some, heapS_some, skipS_some, bi_len, Option.map_some, PMap.get_set, Nat.reduceEqDiff, two, three, Bool.not_true, Bool.not_false, if_true, if_false, reduceIte, Nat.one_ne_zero, Nat.zero_ne_one, up_down, down_self, cell_up, cell_down, row_up, row_down, next_add, next_set, next_up, up_add_down, ic_str, ic_int, ic_op, ic_sl, next_var, thenC_n, thenC_x, thenC_r, thenR_n, thenR_x, thenR_r, blockR_n, blockR_r, blockR_x, Nat.zero_add, decide_true, decide_false, fa_24_0, fa_24_1, fa_30_0, fa_30_1, fa_36_0, fa_36_1, fa_36_2, fa_38_0, fa_38_1, fa_45_0, fa_45_1, fa_45_2, ld_3, ld_9, ld_22, ld_27, ld_28, ld_34, ld_43, ld_24, ld_30, ld_38, ld_36, eg_lss, eg_gtr, eg_leq, eg_add, eg_sub, eg_rem, eg_eql, egn_eql, egs_eql, eg_neq, egn_neq, egs_neq, egc, bo_lss, bo_gtr, bo_leq, bo_neq, bo_eqln, bo_eql, bo_lssi, bo_addi, bo_subi, bs_lss, bs_eql, bs_neq, bc_neq, uo_not, ec_0, ec_1, ec_2, ec_3, ec_4, ec_5, ec_6, ec_8, ec_16, ec_20, ec_10000, ec_10001, ec_1000000, ec_str, ec_bool, ec_nil, ec_tmp, ec_func, t8]) (s.capB hc1 hc2 hrc hcl (.inl (by rw [hB]; exact fun h => hne h.symm)) _ (by omega)) fun h => ?_⟩
  have hcn : (QsD.of (NB + 3) qb l).cn i = nl := by rw [(of_get hx).2.2.2.2, hcl]
  obtain ⟨-, -, e3, e4⟩ := s.eq.2 i (by rw [s.eq.1]; exact hi)
  obtain ⟨-, -, -, f4⟩ := h.2.2 i (by rw [s.eq.1]; exact hi)
  have g1 := (f4 0 (by omega)).1
  have g2 := (e4 0 (by omega)).1
  simp only [true_and, Nat.zero_add, Nat.zero_mul, if_true] at g1
  have g3 : (QsD.of (NB + 3) qb l).lv i 0 = Int.ofNat y.caps[0].1 := by simp only [QsD.of, hx, Option.map_some, Option.getD_some, hy0]
  rw [g2, g3] at g1
  exact wrap_ne _ g1.symm

theorem case3 (s : St H NA NB X nl qa qb QA l) (hi : i < l.length) (t7 : e.get 7 = some (.ptr (some (X, 0)))) (t8 : e.get 8 = some (.ptr (some (X + 1, 0)))) (t9 : e.get 9 = some (nI i)) :
    R (execC Tryd.prog (callC K) (k + 1) 125 csc20 e H) fun o e H => o = .normal ∧ Chg X e H := by
  obtain ⟨b, hb1, hb2, hqb, hr, hB, hall⟩ := s.at hi
  obtain ⟨hne, hc1, hc2, y, hy, hx, hcv, hrc, hcl⟩ := hall i hi
  have hlim := s.lim
  have hnl := s.nl1
  obtain ⟨-, c1, -⟩ := flat_get l i _ hx
  have c1 := (cell_row hr _).trans c1
  have hsl : Sl qb b 0 l.length := by rw [hqb]; exact .op _ _ _ _
  have hsc : Sl y.cv ((QsD.of (NB + 3) qb l).cb i) 0 nl := by rw [hcv]; exact .op _ _ _ _
  have hy0 : y.caps[0]? = some y.caps[0] := List.getElem?_eq_getElem (by omega)
  have d0 : H.cell ((QsD.of (NB + 3) qb l).cb i, 0 * 2 + 1) = some (.int .i64 (Int.ofNat y.caps[0].2)) := (cell_row hrc _).trans (cflat_get y.caps 0 _ hy0).2
  have hst := store_row (off := 0 * 2 + 1) (new := [.int .i64 (wrapI .i64 (Int.ofNat y.caps[0].2 - (1 : Nat)))]) hrc (by omega) rfl (show 0 * 2 + 1 + 1 ≤ (cflat y.caps).length by rw [cflat_length]; omega)
  refine csr20 ?_
  simp -implicitDefEqProofs only [wp_go, wp_open, wp_guard, wp_nil, guardK_tt, guardK_ff, guardK_tf, guardK_ft, sk_value, sk_skip, so_value, so_skip, put_some, put_none, so_move, so_assign, so_pick, pickS_true, pickS_false, s1_some, s2_some, so_load, so_store, so_bin, binS, so_un, so_fa, so_ix, so_box, ea, ep, sl1_some, sp1_some, so_builtin, so_call, callV_func, app_nil, so_build, so_buildSlice, so_slice, s4_some, eo_none, eo_map, so_alloc_30, so_alloc_36, so_alloc_38, valueS_some, heapS_some, skipS_some, bi_len, Option.map_some, PMap.get_set, Nat.reduceEqDiff, two, three, Bool.not_true, Bool.not_false, if_true, if_false, reduceIte, Nat.one_ne_zero, Nat.zero_ne_one, up_down, down_self, cell_up, cell_down, row_up, row_down, next_add, next_set, next_up, up_add_down, ic_str, ic_int, ic_op, ic_sl, next_var, thenC_n, thenC_x, thenC_r, thenR_n, thenR_x, thenR_r, blockR_n, blockR_r, blockR_x, Nat.zero_add, decide_true, decide_false, fa_24_0, fa_24_1, fa_30_0, fa_30_1, fa_36_0, fa_36_1, fa_36_2, fa_38_0, fa_38_1, fa_45_0, fa_45_1, fa_45_2, ld_3, ld_9, ld_22, ld_27, ld_28, ld_34, ld_43, ld_24, ld_30, ld_38, ld_36, eg_lss, eg_gtr, eg_leq, eg_add, eg_sub, eg_rem, eg_eql, egn_eql, egs_eql, eg_neq, egn_neq, egs_neq, egc, bo_lss, bo_gtr, bo_leq, bo_neq, bo_eqln, bo_eql, bo_lssi, bo_addi, bo_subi, bs_lss, bs_eql, bs_neq, bc_neq, uo_not, ec_0, ec_1, ec_2, ec_3, ec_4, ec_5, ec_6, ec_8, ec_16, ec_20, ec_10000, ec_10001, ec_1000000, ec_str, ec_bool, ec_nil, ec_tmp, ec_func, t8, t9, cell_row s.rowY, List.getElem?_cons_zero, List.getElem?_cons_succ, ix_28 hsl hi, c1, ix_34 hsc (show 0 < nl by omega), d0, st_3, hst]
  refine ⟨trivial, _, _, _, _, _, _, _, _, s.fin (by omega) hc2 _ (by simp -implicitDefEqProofs only [wp_go, wp_open, wp_guard, wp_nil, guardK_tt, guardK_ff, guardK_tf, guardK_ft, sk_value, sk_skip, so_value, so_skip, put_some, put_none, so_move, so_assign, so_pick, pickS_true, pickS_false, s1_some, s2_some, so_load, so_store, so_bin, binS, so_un, so_fa, so_ix, so_box, ea, ep, sl1_some, sp1_some, so_builtin, so_call, callV_func, app_nil, so_build, so_buildSlice, so_slice, s4_some, eo_none, eo_map, so_alloc_30, so_alloc_36, so_alloc_38, valueS_some, heapS_some, skipS_some, bi_len, Option.map_some, PMap.get_set, Nat.reduceEqDiff, two, three, Bool.not_true, Bool.not_false, if_true, if_false, reduceIte, Nat.one_ne_zero, Nat.zero_ne_one, up_down, down_self, cell_up, cell_down, row_up, row_down, next_add, next_set, next_up, up_add_down, ic_str, ic_int, ic_op, ic_sl, next_var, thenC_n, thenC_x, thenC_r, thenR_n, thenR_x, thenR_r, blockR_n, blockR_r, blockR_x, Nat.zero_add, decide_true, decide_false, fa_24_0, fa_24_1, fa_30_0, fa_30_1, fa_36_0, fa_36_1, fa_36_2, fa_38_0, fa_38_1, fa_45_0, fa_45_1, fa_45_2, ld_3, ld_9, ld_22, ld_27, ld_28, ld_34, ld_43, ld_24, ld_30, ld_38, ld_36, eg_lss, eg_gtr, eg_leq, eg_add, eg_sub, eg_rem, eg_eql, egn_eql, egs_eql, eg_neq, egn_neq, egs_neq, egc, bo_lss, bo_gtr, bo_leq, bo_neq, bo_eqln, bo_eql, bo_lssi, bo_addi, bo_subi, bs_lss, bs_eql, bs_neq, bc_neq, uo_not, ec_0, ec_1, ec_2, ec_3, ec_4, ec_5, ec_6, ec_8, ec_16, ec_20, ec_10000, ec_10001, ec_1000000, ec_str, ec_bool, ec_nil, ec_tmp, ec_func, t7]) (by simp -implicitDefEqProofs only [wp_go, wp_open, wp_guard, wp_nil, guardK_tt, guardK_ff, guardK_tf, guardK_ft, sk_value, sk_skip, so_value, so_skip, put_some, put_none, so_move, so_assign, so_pick, pickS_true, pickS_false, s1_some, s2_some, so_load, so_store, so_bin, binS, so_un, so_fa, so_ix, so_box, ea, ep, sl1_some, sp1_some, so_builtin, so_call, callV_func, app_nil, so_build, so_buildSlice, so_slice, s4_some, eo_none, eo_map, so_alloc_30, so_alloc_36, so_alloc_38, valueS_some, heapS_some, skipS_some, bi_len, Option.map_some, PMap.get_set, Nat.reduceEqDiff, two, three, Bool.not_true, Bool.not_false, if_true, if_false, reduceIte, Nat.one_ne_zero, Nat.zero_ne_one, up_down, down_self, cell_up, cell_down, row_up, row_down, next_add, next_set, next_up, up_add_down, ic_str, ic_int, ic_op, ic_sl, next_var, thenC_n, thenC_x, thenC_r, thenR_n, thenR_x, thenR_r, blockR_n, blockR_r, blockR_x, Nat.zero_add, decide_true, decide_false, fa_24_0, fa_24_1, fa_30_0, fa_30_1, fa_36_0, fa_36_1, fa_36_2, fa_38_0, fa_38_1, fa_45_0, fa_45_1, fa_45_2, ld_3, ld_9, ld_22, ld_27, ld_28, ld_34, ld_43, ld_24, ld_30, ld_38, ld_36, eg_lss, eg_gtr, eg_leq, eg_add, eg_sub, eg_rem, eg_eql, egn_eql, egs_eql, eg_neq, egn_neq, egs_neq, egc, bo_lss, bo_gtr, bo_leq, bo_neq, bo_eqln, bo_eql, bo_lssi, bo_addi, bo_subi, bs_lss, bs_eql, bs_neq, bc_neq, uo_not, ec_0, ec_1, ec_2, ec_3, ec_4, ec_5, ec_6, ec_8, ec_16, ec_20, ec_10000, ec_10001, ec_1000000, ec_str, ec_bool, ec_nil, ec_tmp, ec_func, t8]) (s.capB hc1 hc2 hrc hcl (.inl (by rw [hB]; exact fun h => hne h.symm)) _ (by omega)) fun h => ?_⟩
  have hcn : (QsD.of (NB + 3) qb l).cn i = nl := by rw [(of_get hx).2.2.2.2, hcl]
  obtain ⟨-, -, e3, e4⟩ := s.eq.2 i (by rw [s.eq.1]; exact hi)
  obtain ⟨-, -, -, f4⟩ := h.2.2 i (by rw [s.eq.1]; exact hi)
  have g1 := (f4 0 (by omega)).2
  have g2 := (e4 0 (by omega)).2
  simp only [true_and, Nat.zero_add, Nat.zero_mul, if_true] at g1
  have g3 : (QsD.of (NB + 3) qb l).mv i 0 = Int.ofNat y.caps[0].2 := by simp only [QsD.of, hx, Option.map_some, Option.getD_some, hy0]
  rw [g2, g3] at g1
  exact wrap_ne' _ g1.symm

theorem case4 (s : St H NA NB X nl qa qb QA l) (hi : i < l.length) (t7 : e.get 7 = some (.ptr (some (X, 0)))) (t8 : e.get 8 = some (.ptr (some (X + 1, 0)))) :
    R (execC Tryd.prog (callC K) (k + 1) 125 csc22 e H) fun o e H => o = .normal ∧ Chg X e H := by
  obtain ⟨b, hb1, hb2, hqb, hr, hB, hall⟩ := s.at hi
  have hlim := s.lim
  have hl0 := s.lim0
  have hbx := s.bx
  have hnx := s.nx
  have hab := s.ab
  have hnl3 := s.nl3
  have hlen := s.len
  have hsl : Sl qb b 0 l.length := by rw [hqb]; exact .op _ _ _ _
  have hss := slice_lo un_28 sz_36 hr (flat_length l) (show l.length - 1 ≤ l.length by omega)
  rw [← show qb = V.oslice b 0 l.length (2 + 1) from hqb] at hss
  have hst := store2_1 (v := .oslice b 0 (l.length - 1) 3) s.rowY (by omega) rfl
  refine csr22 ?_
  simp -implicitDefEqProofs only [wp_go, wp_open, wp_guard, wp_nil, guardK_tt, guardK_ff, guardK_tf, guardK_ft, sk_value, sk_skip, so_value, so_skip, put_some, put_none, so_move, so_assign, so_pick, pickS_true, pickS_false, s1_some, s2_some, so_load, so_store, so_bin, binS, so_un, so_fa, so_ix, so_box, ea, ep, sl1_some, sp1_some, so_builtin, so_call, callV_func, app_nil, so_build, so_buildSlice, so_slice, s4_some, eo_none, eo_map, so_alloc_30, so_alloc_36, so_alloc_38, valueS_some, heapS_some, skipS_some, bi_len, Option.map_some, PMap.get_set, Nat.reduceEqDiff, two, three, Bool.not_true, Bool.not_false, if_true, if_false, reduceIte, Nat.one_ne_zero, Nat.zero_ne_one, up_down, down_self, cell_up, cell_down, row_up, row_down, next_add, next_set, next_up, up_add_down, ic_str, ic_int, ic_op, ic_sl, next_var, thenC_n, thenC_x, thenC_r, thenR_n, thenR_x, thenR_r, blockR_n, blockR_r, blockR_x, Nat.zero_add, decide_true, decide_false, fa_24_0, fa_24_1, fa_30_0, fa_30_1, fa_36_0, fa_36_1, fa_36_2, fa_38_0, fa_38_1, fa_45_0, fa_45_1, fa_45_2, ld_3, ld_9, ld_22, ld_27, ld_28, ld_34, ld_43, ld_24, ld_30, ld_38, ld_36, eg_lss, eg_gtr, eg_leq, eg_add, eg_sub, eg_rem, eg_eql, egn_eql, egs_eql, eg_neq, egn_neq, egs_neq, egc, bo_lss, bo_gtr, bo_leq, bo_neq, bo_eqln, bo_eql, bo_lssi, bo_addi, bo_subi, bs_lss, bs_eql, bs_neq, bc_neq, uo_not, ec_0, ec_1, ec_2, ec_3, ec_4, ec_5, ec_6, ec_8, ec_16, ec_20, ec_10000, ec_10001, ec_1000000, ec_str, ec_bool, ec_nil, ec_tmp, ec_func, t8, cell_row s.rowY, List.getElem?_cons_zero, List.getElem?_cons_succ, ln_28 hsl, bo_subn (show 1 ≤ l.length by omega) (by omega), hss, st_28, hst]
  have hother : ∀ c, c ≠ X + 1 → (H.set (X + 1) (.row false [labV NB nl, .oslice b 0 (l.length - 1) 3])).row c = H.row c := fun c hc => row_set_other (by omega) hc
  obtain ⟨q, w⟩ := s.ofB
  have hcb : ∀ j, j < l.length - 1 → (QsD.of (NB + 3) qb l).cb j ≠ X + 1 := fun j hj => by have := (hall j (by omega)).2.2.1; omega
  have hbB : (QsD.of (NB + 3) qb l).b ≠ X + 1 := by rw [hB]; omega
  have hlt : ∀ j, j < l.length - 1 → j < (QsD.of (NB + 3) qb l).n := fun j hj => by show j < l.length; omega
  refine ⟨trivial, labV NA nl, qa, labV NB nl, .oslice b 0 (l.length - 1) 3, lbD NA nl, lbD NB nl, QA, { QsD.of (NB + 3) qb l with n := l.length - 1 }, ?_⟩
  have ne : ¬ ((lbD NA nl).eqTo (lbD NB nl) ∧ QA.eqTo { QsD.of (NB + 3) qb l with n := l.length - 1 }) := fun h => by
    have h1 := h.2.1
    have h2 := s.eq.1
    have h3 : (QsD.of (NB + 3) qb l).n = l.length := rfl
    simp only at h1
    omega
  exact
    { t7 := by simp -implicitDefEqProofs only [wp_go, wp_open, wp_guard, wp_nil, guardK_tt, guardK_ff, guardK_tf, guardK_ft, sk_value, sk_skip, so_value, so_skip, put_some, put_none, so_move, so_assign, so_pick, pickS_true, pickS_false, s1_some, s2_some, so_load, so_store, so_bin, binS, so_un, so_fa, so_ix, so_box, ea, ep, sl1_some, sp1_some, so_builtin, so_call, callV_func, app_nil, so_build, so_buildSlice, so_slice, s4_some, eo_none, eo_map, so_alloc_30, so_alloc_36, so_alloc_38, valueS_some, heapS_some, skipS_some, bi_len, Option.map_some, PMap.get_set, Nat.reduceEqDiff, two, three, Bool.not_true, Bool.not_false, if_true, if_false, reduceIte, Nat.one_ne_zero, Nat.zero_ne_one, up_down, down_self, cell_up, cell_down, row_up, row_down, next_add, next_set, next_up, up_add_down, ic_str, ic_int, ic_op, ic_sl, next_var, thenC_n, thenC_x, thenC_r, thenR_n, thenR_x, thenR_r, blockR_n, blockR_r, blockR_x, Nat.zero_add, decide_true, decide_false, fa_24_0, fa_24_1, fa_30_0, fa_30_1, fa_36_0, fa_36_1, fa_36_2, fa_38_0, fa_38_1, fa_45_0, fa_45_1, fa_45_2, ld_3, ld_9, ld_22, ld_27, ld_28, ld_34, ld_43, ld_24, ld_30, ld_38, ld_36, eg_lss, eg_gtr, eg_leq, eg_add, eg_sub, eg_rem, eg_eql, egn_eql, egs_eql, eg_neq, egn_neq, egs_neq, egc, bo_lss, bo_gtr, bo_leq, bo_neq, bo_eqln, bo_eql, bo_lssi, bo_addi, bo_subi, bs_lss, bs_eql, bs_neq, bc_neq, uo_not, ec_0, ec_1, ec_2, ec_3, ec_4, ec_5, ec_6, ec_8, ec_16, ec_20, ec_10000, ec_10001, ec_1000000, ec_str, ec_bool, ec_nil, ec_tmp, ec_func, t7]
      t8 := by simp -implicitDefEqProofs only [wp_go, wp_open, wp_guard, wp_nil, guardK_tt, guardK_ff, guardK_tf, guardK_ft, sk_value, sk_skip, so_value, so_skip, put_some, put_none, so_move, so_assign, so_pick, pickS_true, pickS_false, s1_some, s2_some, so_load, so_store, so_bin, binS, so_un, so_fa, so_ix, so_box, ea, ep, sl1_some, sp1_some, so_builtin, so_call, callV_func, app_nil, so_build, so_buildSlice, so_slice, s4_some, eo_none, eo_map, so_alloc_30, so_alloc_36, so_alloc_38, valueS_some, heapS_some, skipS_some, bi_len, Option.map_some, PMap.get_set, Nat.reduceEqDiff, two, three, Bool.not_true, Bool.not_false, if_true, if_false, reduceIte, Nat.one_ne_zero, Nat.zero_ne_one, up_down, down_self, cell_up, cell_down, row_up, row_down, next_add, next_set, next_up, up_add_down, ic_str, ic_int, ic_op, ic_sl, next_var, thenC_n, thenC_x, thenC_r, thenR_n, thenR_x, thenR_r, blockR_n, blockR_r, blockR_x, Nat.zero_add, decide_true, decide_false, fa_24_0, fa_24_1, fa_30_0, fa_30_1, fa_36_0, fa_36_1, fa_36_2, fa_38_0, fa_38_1, fa_45_0, fa_45_1, fa_45_2, ld_3, ld_9, ld_22, ld_27, ld_28, ld_34, ld_43, ld_24, ld_30, ld_38, ld_36, eg_lss, eg_gtr, eg_leq, eg_add, eg_sub, eg_rem, eg_eql, egn_eql, egs_eql, eg_neq, egn_neq, egs_neq, egc, bo_lss, bo_gtr, bo_leq, bo_neq, bo_eqln, bo_eql, bo_lssi, bo_addi, bo_subi, bs_lss, bs_eql, bs_neq, bc_neq, uo_not, ec_0, ec_1, ec_2, ec_3, ec_4, ec_5, ec_6, ec_8, ec_16, ec_20, ec_10000, ec_10001, ec_1000000, ec_str, ec_bool, ec_nil, ec_tmp, ec_func, t8]
      n0 := by show H.lim0 ≤ H.next; omega
      l0 := by show H.lim ≤ H.next; omega
      nx := hnx
      rowX := (hother _ (by omega)).trans s.rowX
      rowY := row_set_same (x := .row false [labV NB nl, .oslice b 0 (l.length - 1) 3]) (by omega)
      sa := s.aStore (by omega) _
      sb :=
        { lb := s.lbB'.same (hother _ (by show NB + 2 ≠ _; omega))
          qs :=
            { sl := by
                show Sl _ (QsD.of (NB + 3) qb l).b 0 (l.length - 1)
                rw [hB]; exact .op _ _ _ _
              small := by show l.length - 1 < _; omega
              pc := fun j hj => (cell_same (hother _ hbB) _).trans (q.pc j (hlt j hj))
              cc := fun j hj => (cell_same (hother _ hbB) _).trans (q.cc j (hlt j hj))
              uc := fun j hj => (cell_same (hother _ hbB) _).trans (q.uc j (hlt j hj))
              iscell := fun j hj => q.iscell j (hlt j hj)
              cs := fun j hj => q.cs j (hlt j hj)
              csmall := fun j hj => q.csmall j (hlt j hj)
              lc := fun j hj m hm => (cell_same (hother _ (hcb j hj)) _).trans (q.lc j (hlt j hj) m hm)
              mc := fun j hj m hm => (cell_same (hother _ (hcb j hj)) _).trans (q.mc j (hlt j hj) m hm) }
          lt := by show NB + 2 < H.next; omega
          wq := ⟨Nat.zero_le _, w.2.1, fun j hj => ⟨Nat.zero_le _, (w.2.2 j (hlt j hj)).2⟩⟩
          cn := fun j hj => by
            have hj : j < l.length - 1 := hj
            obtain ⟨-, -, -, y, -, hx, -, -, hcl⟩ := hall j (by omega)
            show (QsD.of (NB + 3) qb l).cn j ≤ 3
            rw [(of_get hx).2.2.2.2, hcl]; exact hnl3
          ln := by show nl ≤ 4; omega
          qn := by show l.length - 1 ≤ 16; omega }
      ne := ne
      ne' := fun h => ne ⟨lb_symm h.1, qs_symm h.2⟩ }

theorem lblS_ne {j : Nat} : lblS j ≠ [111, 116, 104, 101, 114] := by
  unfold lblS
  by_cases h0 : j = 0
  · simp [h0]
  · by_cases h1 : j = 1
    · simp [h1]
    · simp [h0, h1]

theorem case5 (s : St H NA NB X nl qa qb QA l) (t7 : e.get 7 = some (.ptr (some (X, 0)))) (t8 : e.get 8 = some (.ptr (some (X + 1, 0)))) :
    R (execC Tryd.prog (callC K) (k + 1) 125 csc24 e H) fun o e H => o = .normal ∧ Chg X e H := by
  have hlim := s.lim
  have hl0 := s.lim0
  have hbx := s.bx
  have hnx := s.nx
  have hab := s.ab
  have hnl3 := s.nl3
  have hnl := s.nl1
  obtain ⟨q, w⟩ := s.ofB
  have hsl : Sl (labV NB nl) (NB + 2) 0 nl := .sl _ _ _ _
  have hst := store_row (off := (nl - 1) * 1) (new := [.str [111, 116, 104, 101, 114]]) s.lbB (by omega) rfl (show (nl - 1) * 1 + 1 ≤ 3 by omega)
  refine csr24 ?_
  simp -implicitDefEqProofs only [wp_go, wp_open, wp_guard, wp_nil, guardK_tt, guardK_ff, guardK_tf, guardK_ft, sk_value, sk_skip, so_value, so_skip, put_some, put_none, so_move, so_assign, so_pick, pickS_true, pickS_false, s1_some, s2_some, so_load, so_store, so_bin, binS, so_un, so_fa, so_ix, so_box, ea, ep, sl1_some, sp1_some, so_builtin, so_call, callV_func, app_nil, so_build, so_buildSlice, so_slice, s4_some, eo_none, eo_map, so_alloc_30, so_alloc_36, so_alloc_38, valueS_some, heapS_some, skipS_some, bi_len, Option.map_some, PMap.get_set, Nat.reduceEqDiff, two, three, Bool.not_true, Bool.not_false, if_true, if_false, reduceIte, Nat.one_ne_zero, Nat.zero_ne_one, up_down, down_self, cell_up, cell_down, row_up, row_down, next_add, next_set, next_up, up_add_down, ic_str, ic_int, ic_op, ic_sl, next_var, thenC_n, thenC_x, thenC_r, thenR_n, thenR_x, thenR_r, blockR_n, blockR_r, blockR_x, Nat.zero_add, decide_true, decide_false, fa_24_0, fa_24_1, fa_30_0, fa_30_1, fa_36_0, fa_36_1, fa_36_2, fa_38_0, fa_38_1, fa_45_0, fa_45_1, fa_45_2, ld_3, ld_9, ld_22, ld_27, ld_28, ld_34, ld_43, ld_24, ld_30, ld_38, ld_36, eg_lss, eg_gtr, eg_leq, eg_add, eg_sub, eg_rem, eg_eql, egn_eql, egs_eql, eg_neq, egn_neq, egs_neq, egc, bo_lss, bo_gtr, bo_leq, bo_neq, bo_eqln, bo_eql, bo_lssi, bo_addi, bo_subi, bs_lss, bs_eql, bs_neq, bc_neq, uo_not, ec_0, ec_1, ec_2, ec_3, ec_4, ec_5, ec_6, ec_8, ec_16, ec_20, ec_10000, ec_10001, ec_1000000, ec_str, ec_bool, ec_nil, ec_tmp, ec_func, t8, cell_row s.rowY, List.getElem?_cons_zero, List.getElem?_cons_succ, ln_27 hsl, bo_subn (show 1 ≤ nl by omega) (by omega), ix_27 hsl (show nl - 1 < nl by omega), st_9, hst]
  have hcell := cell_store (off := (nl - 1) * 1) (v := .str [111, 116, 104, 101, 114]) s.lbB (by omega) (show (nl - 1) * 1 < 3 by omega)
  refine ⟨trivial, _, _, _, _, _, { lbD NB nl with s := fun j => if j = nl - 1 then [111, 116, 104, 101, 114] else lblS j }, _, QsD.of (NB + 3) qb l, s.fin (by omega) (by omega) _ (by simp -implicitDefEqProofs only [wp_go, wp_open, wp_guard, wp_nil, guardK_tt, guardK_ff, guardK_tf, guardK_ft, sk_value, sk_skip, so_value, so_skip, put_some, put_none, so_move, so_assign, so_pick, pickS_true, pickS_false, s1_some, s2_some, so_load, so_store, so_bin, binS, so_un, so_fa, so_ix, so_box, ea, ep, sl1_some, sp1_some, so_builtin, so_call, callV_func, app_nil, so_build, so_buildSlice, so_slice, s4_some, eo_none, eo_map, so_alloc_30, so_alloc_36, so_alloc_38, valueS_some, heapS_some, skipS_some, bi_len, Option.map_some, PMap.get_set, Nat.reduceEqDiff, two, three, Bool.not_true, Bool.not_false, if_true, if_false, reduceIte, Nat.one_ne_zero, Nat.zero_ne_one, up_down, down_self, cell_up, cell_down, row_up, row_down, next_add, next_set, next_up, up_add_down, ic_str, ic_int, ic_op, ic_sl, next_var, thenC_n, thenC_x, thenC_r, thenR_n, thenR_x, thenR_r, blockR_n, blockR_r, blockR_x, Nat.zero_add, decide_true, decide_false, fa_24_0, fa_24_1, fa_30_0, fa_30_1, fa_36_0, fa_36_1, fa_36_2, fa_38_0, fa_38_1, fa_45_0, fa_45_1, fa_45_2, ld_3, ld_9, ld_22, ld_27, ld_28, ld_34, ld_43, ld_24, ld_30, ld_38, ld_36, eg_lss, eg_gtr, eg_leq, eg_add, eg_sub, eg_rem, eg_eql, egn_eql, egs_eql, eg_neq, egn_neq, egs_neq, egc, bo_lss, bo_gtr, bo_leq, bo_neq, bo_eqln, bo_eql, bo_lssi, bo_addi, bo_subi, bs_lss, bs_eql, bs_neq, bc_neq, uo_not, ec_0, ec_1, ec_2, ec_3, ec_4, ec_5, ec_6, ec_8, ec_16, ec_20, ec_10000, ec_10001, ec_1000000, ec_str, ec_bool, ec_nil, ec_tmp, ec_func, t7]) (by simp -implicitDefEqProofs only [wp_go, wp_open, wp_guard, wp_nil, guardK_tt, guardK_ff, guardK_tf, guardK_ft, sk_value, sk_skip, so_value, so_skip, put_some, put_none, so_move, so_assign, so_pick, pickS_true, pickS_false, s1_some, s2_some, so_load, so_store, so_bin, binS, so_un, so_fa, so_ix, so_box, ea, ep, sl1_some, sp1_some, so_builtin, so_call, callV_func, app_nil, so_build, so_buildSlice, so_slice, s4_some, eo_none, eo_map, so_alloc_30, so_alloc_36, so_alloc_38, valueS_some, heapS_some, skipS_some, bi_len, Option.map_some, PMap.get_set, Nat.reduceEqDiff, two, three, Bool.not_true, Bool.not_false, if_true, if_false, reduceIte, Nat.one_ne_zero, Nat.zero_ne_one, up_down, down_self, cell_up, cell_down, row_up, row_down, next_add, next_set, next_up, up_add_down, ic_str, ic_int, ic_op, ic_sl, next_var, thenC_n, thenC_x, thenC_r, thenR_n, thenR_x, thenR_r, blockR_n, blockR_r, blockR_x, Nat.zero_add, decide_true, decide_false, fa_24_0, fa_24_1, fa_30_0, fa_30_1, fa_36_0, fa_36_1, fa_36_2, fa_38_0, fa_38_1, fa_45_0, fa_45_1, fa_45_2, ld_3, ld_9, ld_22, ld_27, ld_28, ld_34, ld_43, ld_24, ld_30, ld_38, ld_36, eg_lss, eg_gtr, eg_leq, eg_add, eg_sub, eg_rem, eg_eql, egn_eql, egs_eql, eg_neq, egn_neq, egs_neq, egc, bo_lss, bo_gtr, bo_leq, bo_neq, bo_eqln, bo_eql, bo_lssi, bo_addi, bo_subi, bs_lss, bs_eql, bs_neq, bc_neq, uo_not, ec_0, ec_1, ec_2, ec_3, ec_4, ec_5, ec_6, ec_8, ec_16, ec_20, ec_10000, ec_10001, ec_1000000, ec_str, ec_bool, ec_nil, ec_tmp, ec_func, t8]) ?_ fun h => ?_⟩
  · have hother : ∀ c, NB + 3 ≤ c → (H.set (NB + 2) (.row false (splice lblRow ((nl - 1) * 1) [.str [111, 116, 104, 101, 114]]))).row c = H.row c := fun c hc => row_set_other (by omega) (by omega)
    exact
      { lb :=
          { sl := hsl
            small := by show nl < _; omega
            sc := fun j hj => by
              have hj : j < nl := hj
              show (H.set (NB + 2) _).cell (NB + 2, 0 + j * 1) = some (.str (if j = nl - 1 then [111, 116, 104, 101, 114] else lblS j))
              rw [hcell]
              by_cases hjn : j = nl - 1
              · rw [if_pos ⟨rfl, by omega⟩, if_pos hjn]
              · rw [if_neg (by omega), if_neg hjn]
                exact s.lbB'.sc j hj }
        qs := q.same (lo := NB + 3) (hi := H.next) w fun c hc _ => hother c hc
        lt := by show NB + 2 < H.next; omega
        wq := ⟨Nat.zero_le _, w.2.1, fun j hj => ⟨Nat.zero_le _, (w.2.2 j hj).2⟩⟩
        cn := fun j hj => by
          have hj : j < l.length := hj
          rw [(of_get (List.getElem?_eq_getElem hj)).2.2.2.2, s.cl _ (List.getElem_mem hj)]
          exact hnl3
        ln := by show nl ≤ 4; omega
        qn := s.len }
  · have h1 := h.1.2 (nl - 1) (by show nl - 1 < nl; omega)
    simp only [if_true] at h1
    exact lblS_ne h1

end
end Go.Proofs.YtaliknnfbjehhaaDoor.CS
