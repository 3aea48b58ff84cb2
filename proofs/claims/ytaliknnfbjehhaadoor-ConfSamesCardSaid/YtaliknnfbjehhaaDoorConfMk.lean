/-
  ConfSames: Make's inner loops.
-/
import Derived.Test.YtaliknnfbjehhaaDoorConfPut
set_option linter.all false
namespace Go.Proofs.YtaliknnfbjehhaaDoor.CS
open Go.Abs Go.RowKit Go.Proofs
set_option maxRecDepth 100000

/-- More blocks; those below a place as they were. -/
structure Kept (lo : Nat) (h h' : Heap) : Prop where
  next : h.next ≤ h'.next
  lim : h'.lim = h.lim
  lim0 : h'.lim0 = h.lim0
  row : ∀ b, b < lo → h'.row b = h.row b

theorem Kept.refl (lo : Nat) (h : Heap) : Kept lo h h := ⟨Nat.le_refl _, rfl, rfl, fun _ _ => rfl⟩
theorem Kept.trans {lo : Nat} {a b c : Heap} (p : Kept lo a b) (q : Kept lo b c) : Kept lo a c := ⟨Nat.le_trans p.next q.next, q.lim.trans p.lim, q.lim0.trans p.lim0, fun x hx => (q.row x hx).trans (p.row x hx)⟩
theorem growKept {lo : Nat} {h h' : Heap} (g : Grow h h') (hl : lo ≤ h.next) : Kept lo h h' := ⟨g.next, g.lim, g.lim0, fun b hb => g.row b (Nat.lt_of_lt_of_le hb hl)⟩
theorem Kept.grow {lo : Nat} {h0 h h' : Heap} (k : Kept lo h h') (g : Grow h0 h) (hl : h0.next ≤ lo) : Grow h0 h' := ⟨Nat.le_trans g.next k.next, k.lim.trans g.lim, k.lim0.trans g.lim0, fun b hb => (k.row b (Nat.lt_of_lt_of_le hb hl)).trans (g.row b hb)⟩
theorem Kept.set {lo : Nat} {h h' : Heap} (k : Kept lo h h') {b : Nat} (hb : lo ≤ b) (h0 : h'.lim0 ≤ b) (x : Blk) : Kept lo h (h'.set b x) :=
  ⟨k.next, k.lim, k.lim0, fun c hc => by rw [row_set_other h0 (by omega)]; exact k.row c hc⟩

/-- Shares in a row. -/
def cflat : List (Nat × Nat) → List V
  | [] => []
  | c :: l => nI c.1 :: nI c.2 :: cflat l
theorem cflat_length : ∀ l : List (Nat × Nat), (cflat l).length = l.length * 2
  | [] => rfl
  | c :: l => by rw [cflat, List.length_cons, List.length_cons, cflat_length l, List.length_cons]; omega
theorem cflat_append : ∀ l m : List (Nat × Nat), cflat (l ++ m) = cflat l ++ cflat m
  | [], m => rfl
  | c :: l, m => by rw [List.cons_append, cflat, cflat, cflat_append l m]; rfl
theorem cflat_cells : ∀ l : List (Nat × Nat), allCells (cflat l) = true := fun l => by
  rw [allCells_iff]
  induction l with
  | nil => intro v hv; cases hv
  | cons c l ih =>
    intro v hv
    simp only [cflat, List.mem_cons] at hv
    rcases hv with e | e | hv
    · rw [e]; rfl
    · rw [e]; rfl
    · exact ih v hv
theorem cflat_get : ∀ (l : List (Nat × Nat)) (i : Nat) (c : Nat × Nat), l[i]? = some c → (cflat l)[i * 2]? = some (nI c.1) ∧ (cflat l)[i * 2 + 1]? = some (nI c.2)
  | [], i, c, h => by cases h
  | y :: l, 0, c, h => by
    simp only [List.getElem?_cons_zero, Option.some.injEq] at h
    subst h
    exact ⟨rfl, rfl⟩
  | y :: l, i + 1, c, h => by
    have ih := cflat_get l i c (by simpa using h)
    rw [show (i + 1) * 2 = i * 2 + 1 + 1 by omega, cflat, List.getElem?_cons_succ, List.getElem?_cons_succ, List.getElem?_cons_succ, List.getElem?_cons_succ]
    exact ih

def CapsRep (lo : Nat) (h : Heap) (cv : V) (caps : List (Nat × Nat)) : Prop :=
  (caps = [] ∧ cv = .slice none 0 0) ∨ (caps ≠ [] ∧ ∃ b, lo ≤ b ∧ b < h.next ∧ cv = .oslice b 0 caps.length 2 ∧ h.row b = some (true, cflat caps))

theorem CapsRep.same {lo : Nat} {h h' : Heap} {cv : V} {caps : List (Nat × Nat)} (r : CapsRep lo h cv caps) (hn : h.next ≤ h'.next) (hr : ∀ b, lo ≤ b → b < h.next → h'.row b = h.row b) : CapsRep lo h' cv caps := by
  rcases r with r | ⟨h1, b, h2, h3, h4, h5⟩
  · exact .inl r
  · exact .inr ⟨h1, b, h2, Nat.lt_of_lt_of_le h3 hn, h4, (hr b h2 h3).trans h5⟩
theorem CapsRep.grow {lo : Nat} {h h' : Heap} {cv : V} {caps : List (Nat × Nat)} (r : CapsRep lo h cv caps) (g : Grow h h') : CapsRep lo h' cv caps := r.same g.next fun b _ hb => g.row b hb
theorem CapsRep.less {lo lo' : Nat} {h : Heap} {cv : V} {caps : List (Nat × Nat)} (r : CapsRep lo h cv caps) (hl : lo' ≤ lo) : CapsRep lo' h cv caps := by
  rcases r with r | ⟨h1, b, h2, h3, h4, h5⟩
  · exact .inl r
  · exact .inr ⟨h1, b, Nat.le_trans hl h2, h3, h4, h5⟩
theorem CapsRep.isCell {lo : Nat} {h : Heap} {cv : V} {caps : List (Nat × Nat)} (r : CapsRep lo h cv caps) : cv.isCell = true := by
  rcases r with ⟨-, r⟩ | ⟨h1, b, h2, h3, h4, h5⟩ <;> subst_vars <;> rfl

/-- A share appended. -/
theorem cap_app {lo : Nat} {H : Heap} (hn : H.lim0 ≤ H.next) (hlo : lo ≤ H.next) (hl0 : H.lim0 ≤ lo) (hlm : H.lim ≤ lo) {cv : V} {caps : List (Nat × Nat)} (r : CapsRep lo H cv caps) (hs : caps.length < 100) (a b : Nat) :
    ∃ cv' H2, appendA Tryd.prog (H.add (.row false [nI a, nI b])) 34 34 cv (.slice (some (H.next, 0)) 1 1) = some (cv', H2) ∧ Kept lo H H2 ∧ CapsRep lo H2 cv' (caps ++ [(a, b)]) ∧ cv'.isCell = true := by
  have gA := Grow.add hn (.row false [nI a, nI b])
  have hnA := gA.ok0 hn
  have hr : (H.add (.row false [nI a, nI b])).row H.next = some (false, [nI a, nI b]) := row_add_new hn
  have hf := first_row' (e := 2) (n := 1) (o := 0) (m := 1) (c := 1) hr (Nat.le_refl 2)
  have hf : firstA (H.add (.row false [nI a, nI b])) 2 1 (.slice (some (H.next, 0)) 1 1) = some [nI a, nI b] := hf
  have e1 : cflat (caps ++ [(a, b)]) = cflat caps ++ [nI a, nI b] := by rw [cflat_append]; rfl
  have hne : caps ++ [(a, b)] ≠ [] := by simp
  rw [app_34 rfl hf]
  rcases r with ⟨h1, h2⟩ | ⟨h1, c, h2, h3, h4, h5⟩
  · subst h1; subst h2
    have e2 := exact_grow (h := H.add (.row false [nI a, nI b])) (e := 2) (bytes := 16) (n := 1) (len := 0) (cap := 0) (new := [nI a, nI b]) (old := []) (base := none) (by omega) (by omega) rfl rfl rfl rfl rfl
    refine ⟨_, _, e2, growKept (gA.trans (Grow.add hnA _)) hlo, .inr ⟨hne, (H.add (.row false [nI a, nI b])).next, Nat.le_trans hlo (Nat.le_succ _), Nat.lt_succ_self _, rfl, ?_⟩, rfl⟩
    rw [row_add_new hnA, e1]; rfl
  · subst h4
    have hrb : (H.add (.row false [nI a, nI b])).row c = some (true, cflat caps) := (gA.row c h3).trans h5
    have ht : ((cflat caps).drop 0).take (caps.length * 2) = cflat caps := by rw [List.drop_zero, ← cflat_length, List.take_length]
    have ks : Kept lo H ((H.add (.row false [nI a, nI b])).set c .dead) := (growKept gA hlo).set h2 (Nat.le_trans hl0 h2) _
    have hns : ((H.add (.row false [nI a, nI b])).set c .dead).lim0 ≤ ((H.add (.row false [nI a, nI b])).set c .dead).next := by rw [ks.lim0]; exact Nat.le_trans hn ks.next
    have e2 := open_grow (h := H.add (.row false [nI a, nI b])) (e := 2) (bytes := 16) (n := 1) (len := caps.length) (o := 0) (new := [nI a, nI b]) hrb (by rw [gA.lim]; omega) (by rw [cflat_length]; omega) (by rw [cflat_length]; omega) (by omega) rfl (by rw [ht]; exact cflat_cells _) rfl
    refine ⟨_, _, e2, ks.trans (growKept (Grow.add hns _) (Nat.le_trans hlo ks.next)), .inr ⟨hne, (H.add (.row false [nI a, nI b])).next, Nat.le_trans hlo (Nat.le_succ _), Nat.lt_succ_self _, ?_, ?_⟩, rfl⟩
    · rw [List.length_append]; rfl
    · rw [show (H.add (.row false [nI a, nI b])).next = ((H.add (.row false [nI a, nI b])).set c .dead).next from rfl, row_add_new hns, ht, e1]; rfl

/-! ### stores to small rows -/

theorem store3_0 {h : Heap} {b : Nat} {x y z v : V} (hr : h.row b = some (false, [x, y, z])) (hl : h.lim ≤ b) (hv : v.isCell = true) : h.store (b, 0) [v] = some (h.set b (.row false [v, y, z])) :=
  store_row hr hl (by rw [allCells_iff]; intro u hu; rw [List.mem_singleton.1 hu]; exact hv) (by simp)
theorem store3_1 {h : Heap} {b : Nat} {x y z v : V} (hr : h.row b = some (false, [x, y, z])) (hl : h.lim ≤ b) (hv : v.isCell = true) : h.store (b, 1) [v] = some (h.set b (.row false [x, v, z])) :=
  store_row hr hl (by rw [allCells_iff]; intro u hu; rw [List.mem_singleton.1 hu]; exact hv) (by simp)
theorem store2_1 {h : Heap} {b : Nat} {x y v : V} (hr : h.row b = some (false, [x, y])) (hl : h.lim ≤ b) (hv : v.isCell = true) : h.store (b, 1) [v] = some (h.set b (.row false [x, v])) :=
  store_row hr hl (by rw [allCells_iff]; intro u hu; rw [List.mem_singleton.1 hu]; exact hv) (by simp)
theorem store2_0 {h : Heap} {b : Nat} {x y v : V} (hr : h.row b = some (false, [x, y])) (hl : h.lim ≤ b) (hv : v.isCell = true) : h.store (b, 0) [v] = some (h.set b (.row false [v, y])) :=
  store_row hr hl (by rw [allCells_iff]; intro u hu; rw [List.mem_singleton.1 hu]; exact hv) (by simp)
theorem store2_all {h : Heap} {b : Nat} {x y v w : V} (hr : h.row b = some (false, [x, y])) (hl : h.lim ≤ b) (hv : v.isCell = true) (hw : w.isCell = true) : h.store (b, 0) [v, w] = some (h.set b (.row false [v, w])) :=
  store_row hr hl (by rw [allCells_iff]; intro u hu; simp only [List.mem_cons, List.not_mem_nil, or_false] at hu; rcases hu with e | e <;> rw [e] <;> assumption) (by simp)

/-! ### built values -/

theorem bs_27_3 (h : Heap) (a b c : List UInt8) : buildSliceA Tryd.prog h 27 3 [(0, .str a), (1, .str b), (2, .str c)] = some (.slice (some (h.next, 0)) 3 3, h.add (.row false [.str a, .str b, .str c])) := by kernel_rfl
theorem bs_27_4 (h : Heap) (a b c d : List UInt8) : buildSliceA Tryd.prog h 27 4 [(0, .str a), (1, .str b), (2, .str c), (3, .str d)] = some (.slice (some (h.next, 0)) 4 4, h.add (.row false [.str a, .str b, .str c, .str d])) := by kernel_rfl
theorem bs_27_1 (h : Heap) (a : List UInt8) : buildSliceA Tryd.prog h 27 1 [(0, .str a)] = some (.slice (some (h.next, 0)) 1 1, h.add (.row false [.str a])) := by kernel_rfl
theorem bs_34_n (h : Heap) (a b : Nat) : buildSliceA Tryd.prog h 34 1 [(0, .agg [nI a, nI b])] = some (.slice (some (h.next, 0)) 1 1, h.add (.row false [nI a, nI b])) := by kernel_rfl
theorem bu_30 (a : Option (Nat × Nat)) (n c : Nat) : buildA Tryd.prog 30 [(0, .slice a n c)] = some (.agg [.slice a n c, .slice none 0 0]) := by kernel_rfl
theorem bu_36 (p : List UInt8) (u : Nat) : buildA Tryd.prog 36 [(0, .str p), (2, nI u)] = some (.agg [.str p, .slice none 0 0, nI u]) := by kernel_rfl
theorem bu_38 (a b : Nat) : buildA Tryd.prog 38 [(0, nI a), (1, nI b)] = some (.agg [nI a, nI b]) := by kernel_rfl
theorem add_str {a b : List UInt8} (h : a.length + b.length < 1000) : binOpA Tryd.prog .add 9 (.str a) (.str b) = some (.str (a ++ b)) :=
  Eq.trans (b := (match Nat.ble (Nat.add (lenL a) (lenL b)) 9223372036854775807 with | true => some (V.str (app a b)) | false => none)) (by kernel_rfl) (by rw [ble_t (show Nat.add (lenL a) (lenL b) ≤ 9223372036854775807 by rw [lenL_eq, lenL_eq]; show a.length + b.length ≤ _; omega), app_eq])

/-- What an iteration of the outer loop finds. -/
structure Ctx (d : RawD) (H0 : Heap) (N C bL nl : Nat) (labs : V) : Prop where
  raw : IsRaw H0 d
  n0 : H0.lim0 ≤ H0.next
  l0 : H0.lim ≤ H0.next
  hN : N < H0.next
  qs : H0.cell (N, 1) = some d.qs
  hC : C < H0.next
  lab : H0.cell (C, 0) = some labs
  sl : Sl labs bL 0 nl

/-! ### names -/

def nmS (w : Nat) : List UInt8 := if w = 0 then [97] else if w = 1 then [98] else if w = 2 then [99, 45, 49] else [57]
def pathTo (nv : Nat → Int) : Nat → List UInt8
  | 0 => [114, 111, 111, 116]
  | k + 1 => pathTo nv k ++ [46] ++ nmS (wn (nv k) 4)
theorem nmS_len (w : Nat) : (nmS w).length ≤ 3 := by
  unfold nmS; by_cases h0 : w = 0 <;> by_cases h1 : w = 1 <;> by_cases h2 : w = 2 <;> simp [h0, h1, h2]
theorem pathTo_len (nv : Nat → Int) : ∀ k, (pathTo nv k).length ≤ 4 + 4 * k
  | 0 => Nat.le_refl 4
  | k + 1 => by
    have h1 := pathTo_len nv k
    have h2 := nmS_len (wn (nv k) 4)
    rw [pathTo, List.length_append, List.length_append]
    simp only [List.length_singleton]; omega
theorem names_get {w : Nat} (h : w < 4) : ([V.str [97], .str [98], .str [99, 45, 49], .str [57]] : List V)[w]? = some (.str (nmS w)) := by
  match w, h with
  | 0, _ => rfl
  | 1, _ => rfl
  | 2, _ => rfl
  | 3, _ => rfl

theorem mk_names {d : RawD} {H0 : Heap} {N C bL nl : Nat} {labs : V} (c : Ctx d H0 N C bL nl labs) {i M : Nat} (hi : i < d.n) (hM : H0.next ≤ M) {u : Nat} :
    ∀ (m k K : Nat) (env : Env) (H : Heap), k + m = min (d.nn i) 4 → Grow H0 H → M < H.next → H.row M = some (false, [.str (pathTo (d.nv i) k), .slice none 0 0, nI u]) →
    env.get 1 = some (.ptr (some (N, 0))) → env.get 4 = some (nI i) → env.get 5 = some (.ptr (some (M, 0))) → env.get 6 = some (nI k) →
    R (execA Tryd.prog (K + m + 60) 120 (.loop (.seq (.seq mkc7 (.cond (.tmp 47) .skip (.exit 2))) (.seq (.block 3 mkc9) mkc8))) env H)
      fun o e H' => o = .exit 2 ∧ Grow H0 H' ∧ M < H'.next ∧ H'.row M = some (false, [.str (pathTo (d.nv i) (min (d.nn i) 4)), .slice none 0 0, nI u]) ∧ ∀ t, t < 6 → e.get t = env.get t := by
  intro m
  induction m with
  | zero =>
    intro k K env H hk g hMn hrow h1 h4 h5 h6
    have r := c.raw.grow g
    have hqs := (g.cell c.hN 1).trans c.qs
    refine R_loop (R_seq (R_seq (mkr7 ?_)))
    have hfin : min (d.nn i) 4 = k := by omega
    by_cases hnn : k < d.nn i
    · have h4' : ¬ k < 4 := by omega
      simp -implicitDefEqProofs only [wp_go, wp_open, wp_guard, wp_nil, guardK_tt, guardK_ff, guardK_tf, guardK_ft, sk_value, sk_skip, so_value, so_skip, put_some, put_none, so_move, so_assign, so_pick, pickS_true, pickS_false, s1_some, s2_some, so_load, so_store, so_bin, binS, so_un, so_fa, so_ix, so_box, ea, ep, sl1_some, sp1_some, so_builtin, so_call, callV_func, app_nil, so_build, so_buildSlice, so_slice, s4_some, eo_none, eo_map, so_alloc_30, so_alloc_36, so_alloc_38, valueS_some, heapS_some, skipS_some, bi_len, Option.map_some, PMap.get_set, Nat.reduceEqDiff, two, three, Bool.not_true, Bool.not_false, if_true, if_false, reduceIte, Nat.one_ne_zero, Nat.zero_ne_one, up_down, down_self, cell_up, cell_down, row_up, row_down, next_add, next_set, next_up, up_add_down, ic_str, ic_int, ic_op, ic_sl, next_var, thenC_n, thenC_x, thenC_r, thenR_n, thenR_x, thenR_r, blockR_n, blockR_r, blockR_x, Nat.zero_add, decide_true, decide_false, fa_24_0, fa_24_1, fa_30_0, fa_30_1, fa_36_0, fa_36_1, fa_36_2, fa_38_0, fa_38_1, fa_45_0, fa_45_1, fa_45_2, ld_3, ld_9, ld_22, ld_27, ld_28, ld_34, ld_43, ld_24, ld_30, ld_38, ld_36, eg_lss, eg_gtr, eg_leq, eg_add, eg_sub, eg_rem, eg_eql, egn_eql, egs_eql, eg_neq, egn_neq, egs_neq, egc, bo_lss, bo_gtr, bo_leq, bo_neq, bo_eqln, bo_eql, bo_lssi, bo_addi, bo_subi, bs_lss, bs_eql, bs_neq, bc_neq, uo_not, ec_0, ec_1, ec_2, ec_3, ec_4, ec_5, ec_6, ec_8, ec_16, ec_20, ec_10000, ec_10001, ec_1000000, ec_str, ec_bool, ec_nil, ec_tmp, ec_func, h1, h4, h6, hqs, ix_22 r.qs hi, r.names i hi, ln_43 (r.nms i hi), hnn, h4']
      refine R_cond (t := false) (by simp -implicitDefEqProofs only [wp_go, wp_open, wp_guard, wp_nil, guardK_tt, guardK_ff, guardK_tf, guardK_ft, sk_value, sk_skip, so_value, so_skip, put_some, put_none, so_move, so_assign, so_pick, pickS_true, pickS_false, s1_some, s2_some, so_load, so_store, so_bin, binS, so_un, so_fa, so_ix, so_box, ea, ep, sl1_some, sp1_some, so_builtin, so_call, callV_func, app_nil, so_build, so_buildSlice, so_slice, s4_some, eo_none, eo_map, so_alloc_30, so_alloc_36, so_alloc_38, valueS_some, heapS_some, skipS_some, bi_len, Option.map_some, PMap.get_set, Nat.reduceEqDiff, two, three, Bool.not_true, Bool.not_false, if_true, if_false, reduceIte, Nat.one_ne_zero, Nat.zero_ne_one, up_down, down_self, cell_up, cell_down, row_up, row_down, next_add, next_set, next_up, up_add_down, ic_str, ic_int, ic_op, ic_sl, next_var, thenC_n, thenC_x, thenC_r, thenR_n, thenR_x, thenR_r, blockR_n, blockR_r, blockR_x, Nat.zero_add, decide_true, decide_false, fa_24_0, fa_24_1, fa_30_0, fa_30_1, fa_36_0, fa_36_1, fa_36_2, fa_38_0, fa_38_1, fa_45_0, fa_45_1, fa_45_2, ld_3, ld_9, ld_22, ld_27, ld_28, ld_34, ld_43, ld_24, ld_30, ld_38, ld_36, eg_lss, eg_gtr, eg_leq, eg_add, eg_sub, eg_rem, eg_eql, egn_eql, egs_eql, eg_neq, egn_neq, egs_neq, egc, bo_lss, bo_gtr, bo_leq, bo_neq, bo_eqln, bo_eql, bo_lssi, bo_addi, bo_subi, bs_lss, bs_eql, bs_neq, bc_neq, uo_not, ec_0, ec_1, ec_2, ec_3, ec_4, ec_5, ec_6, ec_8, ec_16, ec_20, ec_10000, ec_10001, ec_1000000, ec_str, ec_bool, ec_nil, ec_tmp, ec_func]) (fun h => by cases h) (fun _ => R_exit ?_)
      exact ⟨rfl, g, hMn, by rw [hfin]; exact hrow, fun t ht => by have : ∀ j, 6 ≤ j → ¬ t = j := fun j hj => by omega
                                                                   simp [PMap.get_set, this]⟩
    · simp -implicitDefEqProofs only [wp_go, wp_open, wp_guard, wp_nil, guardK_tt, guardK_ff, guardK_tf, guardK_ft, sk_value, sk_skip, so_value, so_skip, put_some, put_none, so_move, so_assign, so_pick, pickS_true, pickS_false, s1_some, s2_some, so_load, so_store, so_bin, binS, so_un, so_fa, so_ix, so_box, ea, ep, sl1_some, sp1_some, so_builtin, so_call, callV_func, app_nil, so_build, so_buildSlice, so_slice, s4_some, eo_none, eo_map, so_alloc_30, so_alloc_36, so_alloc_38, valueS_some, heapS_some, skipS_some, bi_len, Option.map_some, PMap.get_set, Nat.reduceEqDiff, two, three, Bool.not_true, Bool.not_false, if_true, if_false, reduceIte, Nat.one_ne_zero, Nat.zero_ne_one, up_down, down_self, cell_up, cell_down, row_up, row_down, next_add, next_set, next_up, up_add_down, ic_str, ic_int, ic_op, ic_sl, next_var, thenC_n, thenC_x, thenC_r, thenR_n, thenR_x, thenR_r, blockR_n, blockR_r, blockR_x, Nat.zero_add, decide_true, decide_false, fa_24_0, fa_24_1, fa_30_0, fa_30_1, fa_36_0, fa_36_1, fa_36_2, fa_38_0, fa_38_1, fa_45_0, fa_45_1, fa_45_2, ld_3, ld_9, ld_22, ld_27, ld_28, ld_34, ld_43, ld_24, ld_30, ld_38, ld_36, eg_lss, eg_gtr, eg_leq, eg_add, eg_sub, eg_rem, eg_eql, egn_eql, egs_eql, eg_neq, egn_neq, egs_neq, egc, bo_lss, bo_gtr, bo_leq, bo_neq, bo_eqln, bo_eql, bo_lssi, bo_addi, bo_subi, bs_lss, bs_eql, bs_neq, bc_neq, uo_not, ec_0, ec_1, ec_2, ec_3, ec_4, ec_5, ec_6, ec_8, ec_16, ec_20, ec_10000, ec_10001, ec_1000000, ec_str, ec_bool, ec_nil, ec_tmp, ec_func, h1, h4, h6, hqs, ix_22 r.qs hi, r.names i hi, ln_43 (r.nms i hi), hnn]
      refine R_cond (t := false) (by simp -implicitDefEqProofs only [wp_go, wp_open, wp_guard, wp_nil, guardK_tt, guardK_ff, guardK_tf, guardK_ft, sk_value, sk_skip, so_value, so_skip, put_some, put_none, so_move, so_assign, so_pick, pickS_true, pickS_false, s1_some, s2_some, so_load, so_store, so_bin, binS, so_un, so_fa, so_ix, so_box, ea, ep, sl1_some, sp1_some, so_builtin, so_call, callV_func, app_nil, so_build, so_buildSlice, so_slice, s4_some, eo_none, eo_map, so_alloc_30, so_alloc_36, so_alloc_38, valueS_some, heapS_some, skipS_some, bi_len, Option.map_some, PMap.get_set, Nat.reduceEqDiff, two, three, Bool.not_true, Bool.not_false, if_true, if_false, reduceIte, Nat.one_ne_zero, Nat.zero_ne_one, up_down, down_self, cell_up, cell_down, row_up, row_down, next_add, next_set, next_up, up_add_down, ic_str, ic_int, ic_op, ic_sl, next_var, thenC_n, thenC_x, thenC_r, thenR_n, thenR_x, thenR_r, blockR_n, blockR_r, blockR_x, Nat.zero_add, decide_true, decide_false, fa_24_0, fa_24_1, fa_30_0, fa_30_1, fa_36_0, fa_36_1, fa_36_2, fa_38_0, fa_38_1, fa_45_0, fa_45_1, fa_45_2, ld_3, ld_9, ld_22, ld_27, ld_28, ld_34, ld_43, ld_24, ld_30, ld_38, ld_36, eg_lss, eg_gtr, eg_leq, eg_add, eg_sub, eg_rem, eg_eql, egn_eql, egs_eql, eg_neq, egn_neq, egs_neq, egc, bo_lss, bo_gtr, bo_leq, bo_neq, bo_eqln, bo_eql, bo_lssi, bo_addi, bo_subi, bs_lss, bs_eql, bs_neq, bc_neq, uo_not, ec_0, ec_1, ec_2, ec_3, ec_4, ec_5, ec_6, ec_8, ec_16, ec_20, ec_10000, ec_10001, ec_1000000, ec_str, ec_bool, ec_nil, ec_tmp, ec_func]) (fun h => by cases h) (fun _ => R_exit ?_)
      exact ⟨rfl, g, hMn, by rw [hfin]; exact hrow, fun t ht => by have : ∀ j, 6 ≤ j → ¬ t = j := fun j hj => by omega
                                                                   simp [PMap.get_set, this]⟩
  | succ m ih =>
    intro k K env H hk g hMn hrow h1 h4 h5 h6
    have r := c.raw.grow g
    have hqs := (g.cell c.hN 1).trans c.qs
    have hnn : k < d.nn i := by omega
    have hk4 : k < 4 := by omega
    have hn := g.ok0 c.n0
    have hl := g.okl c.l0
    refine R_loop (R_seq (R_seq (mkr7 ?_)))
    simp -implicitDefEqProofs only [wp_go, wp_open, wp_guard, wp_nil, guardK_tt, guardK_ff, guardK_tf, guardK_ft, sk_value, sk_skip, so_value, so_skip, put_some, put_none, so_move, so_assign, so_pick, pickS_true, pickS_false, s1_some, s2_some, so_load, so_store, so_bin, binS, so_un, so_fa, so_ix, so_box, ea, ep, sl1_some, sp1_some, so_builtin, so_call, callV_func, app_nil, so_build, so_buildSlice, so_slice, s4_some, eo_none, eo_map, so_alloc_30, so_alloc_36, so_alloc_38, valueS_some, heapS_some, skipS_some, bi_len, Option.map_some, PMap.get_set, Nat.reduceEqDiff, two, three, Bool.not_true, Bool.not_false, if_true, if_false, reduceIte, Nat.one_ne_zero, Nat.zero_ne_one, up_down, down_self, cell_up, cell_down, row_up, row_down, next_add, next_set, next_up, up_add_down, ic_str, ic_int, ic_op, ic_sl, next_var, thenC_n, thenC_x, thenC_r, thenR_n, thenR_x, thenR_r, blockR_n, blockR_r, blockR_x, Nat.zero_add, decide_true, decide_false, fa_24_0, fa_24_1, fa_30_0, fa_30_1, fa_36_0, fa_36_1, fa_36_2, fa_38_0, fa_38_1, fa_45_0, fa_45_1, fa_45_2, ld_3, ld_9, ld_22, ld_27, ld_28, ld_34, ld_43, ld_24, ld_30, ld_38, ld_36, eg_lss, eg_gtr, eg_leq, eg_add, eg_sub, eg_rem, eg_eql, egn_eql, egs_eql, eg_neq, egn_neq, egs_neq, egc, bo_lss, bo_gtr, bo_leq, bo_neq, bo_eqln, bo_eql, bo_lssi, bo_addi, bo_subi, bs_lss, bs_eql, bs_neq, bc_neq, uo_not, ec_0, ec_1, ec_2, ec_3, ec_4, ec_5, ec_6, ec_8, ec_16, ec_20, ec_10000, ec_10001, ec_1000000, ec_str, ec_bool, ec_nil, ec_tmp, ec_func, h1, h4, h6, hqs, ix_22 r.qs hi, r.names i hi, ln_43 (r.nms i hi), hnn, hk4]
    refine R_cond (t := true) (by simp -implicitDefEqProofs only [wp_go, wp_open, wp_guard, wp_nil, guardK_tt, guardK_ff, guardK_tf, guardK_ft, sk_value, sk_skip, so_value, so_skip, put_some, put_none, so_move, so_assign, so_pick, pickS_true, pickS_false, s1_some, s2_some, so_load, so_store, so_bin, binS, so_un, so_fa, so_ix, so_box, ea, ep, sl1_some, sp1_some, so_builtin, so_call, callV_func, app_nil, so_build, so_buildSlice, so_slice, s4_some, eo_none, eo_map, so_alloc_30, so_alloc_36, so_alloc_38, valueS_some, heapS_some, skipS_some, bi_len, Option.map_some, PMap.get_set, Nat.reduceEqDiff, two, three, Bool.not_true, Bool.not_false, if_true, if_false, reduceIte, Nat.one_ne_zero, Nat.zero_ne_one, up_down, down_self, cell_up, cell_down, row_up, row_down, next_add, next_set, next_up, up_add_down, ic_str, ic_int, ic_op, ic_sl, next_var, thenC_n, thenC_x, thenC_r, thenR_n, thenR_x, thenR_r, blockR_n, blockR_r, blockR_x, Nat.zero_add, decide_true, decide_false, fa_24_0, fa_24_1, fa_30_0, fa_30_1, fa_36_0, fa_36_1, fa_36_2, fa_38_0, fa_38_1, fa_45_0, fa_45_1, fa_45_2, ld_3, ld_9, ld_22, ld_27, ld_28, ld_34, ld_43, ld_24, ld_30, ld_38, ld_36, eg_lss, eg_gtr, eg_leq, eg_add, eg_sub, eg_rem, eg_eql, egn_eql, egs_eql, eg_neq, egn_neq, egs_neq, egc, bo_lss, bo_gtr, bo_leq, bo_neq, bo_eqln, bo_eql, bo_lssi, bo_addi, bo_subi, bs_lss, bs_eql, bs_neq, bc_neq, uo_not, ec_0, ec_1, ec_2, ec_3, ec_4, ec_5, ec_6, ec_8, ec_16, ec_20, ec_10000, ec_10001, ec_1000000, ec_str, ec_bool, ec_nil, ec_tmp, ec_func]) (fun _ => R_skip ?_) (fun h => by cases h)
    simp -implicitDefEqProofs only [wp_go, wp_open, wp_guard, wp_nil, guardK_tt, guardK_ff, guardK_tf, guardK_ft, sk_value, sk_skip, so_value, so_skip, put_some, put_none, so_move, so_assign, so_pick, pickS_true, pickS_false, s1_some, s2_some, so_load, so_store, so_bin, binS, so_un, so_fa, so_ix, so_box, ea, ep, sl1_some, sp1_some, so_builtin, so_call, callV_func, app_nil, so_build, so_buildSlice, so_slice, s4_some, eo_none, eo_map, so_alloc_30, so_alloc_36, so_alloc_38, valueS_some, heapS_some, skipS_some, bi_len, Option.map_some, PMap.get_set, Nat.reduceEqDiff, two, three, Bool.not_true, Bool.not_false, if_true, if_false, reduceIte, Nat.one_ne_zero, Nat.zero_ne_one, up_down, down_self, cell_up, cell_down, row_up, row_down, next_add, next_set, next_up, up_add_down, ic_str, ic_int, ic_op, ic_sl, next_var, thenC_n, thenC_x, thenC_r, thenR_n, thenR_x, thenR_r, blockR_n, blockR_r, blockR_x, Nat.zero_add, decide_true, decide_false, fa_24_0, fa_24_1, fa_30_0, fa_30_1, fa_36_0, fa_36_1, fa_36_2, fa_38_0, fa_38_1, fa_45_0, fa_45_1, fa_45_2, ld_3, ld_9, ld_22, ld_27, ld_28, ld_34, ld_43, ld_24, ld_30, ld_38, ld_36, eg_lss, eg_gtr, eg_leq, eg_add, eg_sub, eg_rem, eg_eql, egn_eql, egs_eql, eg_neq, egn_neq, egs_neq, egc, bo_lss, bo_gtr, bo_leq, bo_neq, bo_eqln, bo_eql, bo_lssi, bo_addi, bo_subi, bs_lss, bs_eql, bs_neq, bc_neq, uo_not, ec_0, ec_1, ec_2, ec_3, ec_4, ec_5, ec_6, ec_8, ec_16, ec_20, ec_10000, ec_10001, ec_1000000, ec_str, ec_bool, ec_nil, ec_tmp, ec_func]
    refine R_seq (R_block (mkr9 ?_))
    have hw := wn_lt (d.nv i k) (show 0 < 4 by omega)
    have gA := Grow.add hn (.row false [.str [97], .str [98], .str [99, 45, 49], .str [57]])
    have hrA : (H.add (.row false [.str [97], .str [98], .str [99, 45, 49], .str [57]])).row H.next = some (false, [.str [97], .str [98], .str [99, 45, 49], .str [57]]) := row_add_new hn
    have hrowA := (gA.row M hMn).trans hrow
    have hnA := gA.ok0 hn
    generalize hHA : H.add (.row false [.str [97], .str [98], .str [99, 45, 49], .str [57]]) = HA at *
    have rA := r.grow gA
    have hqsA := (gA.cell (Nat.lt_of_lt_of_le c.hN g.next) 1).trans hqs
    have hcall := wi_at (K := K + (m + 1) + 55) (by omega) (d.nv i k) (m := 4) (by omega) (by omega) HA.up
    have hnm : HA.cell (H.next, wn (d.nv i k) 4 * 1) = some (.str (nmS (wn (d.nv i k) 4))) := by rw [Nat.mul_one]; exact (cell_row hrA _).trans (names_get hw)
    have hl0 : HA.lim0 ≤ M := by rw [gA.lim0, g.lim0]; have := c.n0; omega
    have hlM : HA.lim ≤ M := by rw [gA.lim, g.lim]; have := c.l0; omega
    have hst := store3_0 (v := .str (pathTo (d.nv i) (k + 1))) hrowA hlM rfl
    have hpl := pathTo_len (d.nv i) k
    have hnl := nmS_len (wn (d.nv i k) 4)
    simp -implicitDefEqProofs only [wp_go, wp_open, wp_guard, wp_nil, guardK_tt, guardK_ff, guardK_tf, guardK_ft, sk_value, sk_skip, so_value, so_skip, put_some, put_none, so_move, so_assign, so_pick, pickS_true, pickS_false, s1_some, s2_some, so_load, so_store, so_bin, binS, so_un, so_fa, so_ix, so_box, ea, ep, sl1_some, sp1_some, so_builtin, so_call, callV_func, app_nil, so_build, so_buildSlice, so_slice, s4_some, eo_none, eo_map, so_alloc_30, so_alloc_36, so_alloc_38, valueS_some, heapS_some, skipS_some, bi_len, Option.map_some, PMap.get_set, Nat.reduceEqDiff, two, three, Bool.not_true, Bool.not_false, if_true, if_false, reduceIte, Nat.one_ne_zero, Nat.zero_ne_one, up_down, down_self, cell_up, cell_down, row_up, row_down, next_add, next_set, next_up, up_add_down, ic_str, ic_int, ic_op, ic_sl, next_var, thenC_n, thenC_x, thenC_r, thenR_n, thenR_x, thenR_r, blockR_n, blockR_r, blockR_x, Nat.zero_add, decide_true, decide_false, fa_24_0, fa_24_1, fa_30_0, fa_30_1, fa_36_0, fa_36_1, fa_36_2, fa_38_0, fa_38_1, fa_45_0, fa_45_1, fa_45_2, ld_3, ld_9, ld_22, ld_27, ld_28, ld_34, ld_43, ld_24, ld_30, ld_38, ld_36, eg_lss, eg_gtr, eg_leq, eg_add, eg_sub, eg_rem, eg_eql, egn_eql, egs_eql, eg_neq, egn_neq, egs_neq, egc, bo_lss, bo_gtr, bo_leq, bo_neq, bo_eqln, bo_eql, bo_lssi, bo_addi, bo_subi, bs_lss, bs_eql, bs_neq, bc_neq, uo_not, ec_0, ec_1, ec_2, ec_3, ec_4, ec_5, ec_6, ec_8, ec_16, ec_20, ec_10000, ec_10001, ec_1000000, ec_str, ec_bool, ec_nil, ec_tmp, ec_func, h1, h4, h5, h6, cell_row hrow, List.getElem?_cons_zero, add_str (show (pathTo (d.nv i) k).length + [46].length < 1000 by simp only [List.length_singleton]; omega), bs_27_4, up_add_down, hHA, hqsA, ix_22 rA.qs hi, rA.names i hi, ix_43 (rA.nms i hi) hnn, rA.nvs i hi k hnn, so_call' hcall, ix_27 (Sl.sl H.next 0 4 4) hw, hnm,
      add_str (show (pathTo (d.nv i) k ++ [46]).length + (nmS (wn (d.nv i k) 4)).length < 1000 by rw [List.length_append]; simp only [List.length_singleton]; omega), st_9, show pathTo (d.nv i) k ++ [46] ++ nmS (wn (d.nv i k) 4) = pathTo (d.nv i) (k + 1) from rfl, hst]
    refine mkr8 ?_
    simp -implicitDefEqProofs only [wp_go, wp_open, wp_guard, wp_nil, guardK_tt, guardK_ff, guardK_tf, guardK_ft, sk_value, sk_skip, so_value, so_skip, put_some, put_none, so_move, so_assign, so_pick, pickS_true, pickS_false, s1_some, s2_some, so_load, so_store, so_bin, binS, so_un, so_fa, so_ix, so_box, ea, ep, sl1_some, sp1_some, so_builtin, so_call, callV_func, app_nil, so_build, so_buildSlice, so_slice, s4_some, eo_none, eo_map, so_alloc_30, so_alloc_36, so_alloc_38, valueS_some, heapS_some, skipS_some, bi_len, Option.map_some, PMap.get_set, Nat.reduceEqDiff, two, three, Bool.not_true, Bool.not_false, if_true, if_false, reduceIte, Nat.one_ne_zero, Nat.zero_ne_one, up_down, down_self, cell_up, cell_down, row_up, row_down, next_add, next_set, next_up, up_add_down, ic_str, ic_int, ic_op, ic_sl, next_var, thenC_n, thenC_x, thenC_r, thenR_n, thenR_x, thenR_r, blockR_n, blockR_r, blockR_x, Nat.zero_add, decide_true, decide_false, fa_24_0, fa_24_1, fa_30_0, fa_30_1, fa_36_0, fa_36_1, fa_36_2, fa_38_0, fa_38_1, fa_45_0, fa_45_1, fa_45_2, ld_3, ld_9, ld_22, ld_27, ld_28, ld_34, ld_43, ld_24, ld_30, ld_38, ld_36, eg_lss, eg_gtr, eg_leq, eg_add, eg_sub, eg_rem, eg_eql, egn_eql, egs_eql, eg_neq, egn_neq, egs_neq, egc, bo_lss, bo_gtr, bo_leq, bo_neq, bo_eqln, bo_eql, bo_lssi, bo_addi, bo_subi, bs_lss, bs_eql, bs_neq, bc_neq, uo_not, ec_0, ec_1, ec_2, ec_3, ec_4, ec_5, ec_6, ec_8, ec_16, ec_20, ec_10000, ec_10001, ec_1000000, ec_str, ec_bool, ec_nil, ec_tmp, ec_func, h6, bo_addn (show k + 1 < 9223372036854775808 by omega)]
    rw [show K + (m + 1) + 59 = K + m + 60 by omega]
    have g2 : Grow H0 (HA.set M (.row false [.str (pathTo (d.nv i) (k + 1)), .slice none 0 0, nI u])) := (g.trans gA).set hM (by have := c.n0; omega) _
    refine R_mono (ih (k + 1) K _ _ (by omega) g2 (Nat.lt_of_lt_of_le hMn gA.next) (row_set_same hl0) (by simp -implicitDefEqProofs only [wp_go, wp_open, wp_guard, wp_nil, guardK_tt, guardK_ff, guardK_tf, guardK_ft, sk_value, sk_skip, so_value, so_skip, put_some, put_none, so_move, so_assign, so_pick, pickS_true, pickS_false, s1_some, s2_some, so_load, so_store, so_bin, binS, so_un, so_fa, so_ix, so_box, ea, ep, sl1_some, sp1_some, so_builtin, so_call, callV_func, app_nil, so_build, so_buildSlice, so_slice, s4_some, eo_none, eo_map, so_alloc_30, so_alloc_36, so_alloc_38, valueS_some, heapS_some, skipS_some, bi_len, Option.map_some, PMap.get_set, Nat.reduceEqDiff, two, three, Bool.not_true, Bool.not_false, if_true, if_false, reduceIte, Nat.one_ne_zero, Nat.zero_ne_one, up_down, down_self, cell_up, cell_down, row_up, row_down, next_add, next_set, next_up, up_add_down, ic_str, ic_int, ic_op, ic_sl, next_var, thenC_n, thenC_x, thenC_r, thenR_n, thenR_x, thenR_r, blockR_n, blockR_r, blockR_x, Nat.zero_add, decide_true, decide_false, fa_24_0, fa_24_1, fa_30_0, fa_30_1, fa_36_0, fa_36_1, fa_36_2, fa_38_0, fa_38_1, fa_45_0, fa_45_1, fa_45_2, ld_3, ld_9, ld_22, ld_27, ld_28, ld_34, ld_43, ld_24, ld_30, ld_38, ld_36, eg_lss, eg_gtr, eg_leq, eg_add, eg_sub, eg_rem, eg_eql, egn_eql, egs_eql, eg_neq, egn_neq, egs_neq, egc, bo_lss, bo_gtr, bo_leq, bo_neq, bo_eqln, bo_eql, bo_lssi, bo_addi, bo_subi, bs_lss, bs_eql, bs_neq, bc_neq, uo_not, ec_0, ec_1, ec_2, ec_3, ec_4, ec_5, ec_6, ec_8, ec_16, ec_20, ec_10000, ec_10001, ec_1000000, ec_str, ec_bool, ec_nil, ec_tmp, ec_func, h1]) (by simp -implicitDefEqProofs only [wp_go, wp_open, wp_guard, wp_nil, guardK_tt, guardK_ff, guardK_tf, guardK_ft, sk_value, sk_skip, so_value, so_skip, put_some, put_none, so_move, so_assign, so_pick, pickS_true, pickS_false, s1_some, s2_some, so_load, so_store, so_bin, binS, so_un, so_fa, so_ix, so_box, ea, ep, sl1_some, sp1_some, so_builtin, so_call, callV_func, app_nil, so_build, so_buildSlice, so_slice, s4_some, eo_none, eo_map, so_alloc_30, so_alloc_36, so_alloc_38, valueS_some, heapS_some, skipS_some, bi_len, Option.map_some, PMap.get_set, Nat.reduceEqDiff, two, three, Bool.not_true, Bool.not_false, if_true, if_false, reduceIte, Nat.one_ne_zero, Nat.zero_ne_one, up_down, down_self, cell_up, cell_down, row_up, row_down, next_add, next_set, next_up, up_add_down, ic_str, ic_int, ic_op, ic_sl, next_var, thenC_n, thenC_x, thenC_r, thenR_n, thenR_x, thenR_r, blockR_n, blockR_r, blockR_x, Nat.zero_add, decide_true, decide_false, fa_24_0, fa_24_1, fa_30_0, fa_30_1, fa_36_0, fa_36_1, fa_36_2, fa_38_0, fa_38_1, fa_45_0, fa_45_1, fa_45_2, ld_3, ld_9, ld_22, ld_27, ld_28, ld_34, ld_43, ld_24, ld_30, ld_38, ld_36, eg_lss, eg_gtr, eg_leq, eg_add, eg_sub, eg_rem, eg_eql, egn_eql, egs_eql, eg_neq, egn_neq, egs_neq, egc, bo_lss, bo_gtr, bo_leq, bo_neq, bo_eqln, bo_eql, bo_lssi, bo_addi, bo_subi, bs_lss, bs_eql, bs_neq, bc_neq, uo_not, ec_0, ec_1, ec_2, ec_3, ec_4, ec_5, ec_6, ec_8, ec_16, ec_20, ec_10000, ec_10001, ec_1000000, ec_str, ec_bool, ec_nil, ec_tmp, ec_func, h4]) (by simp -implicitDefEqProofs only [wp_go, wp_open, wp_guard, wp_nil, guardK_tt, guardK_ff, guardK_tf, guardK_ft, sk_value, sk_skip, so_value, so_skip, put_some, put_none, so_move, so_assign, so_pick, pickS_true, pickS_false, s1_some, s2_some, so_load, so_store, so_bin, binS, so_un, so_fa, so_ix, so_box, ea, ep, sl1_some, sp1_some, so_builtin, so_call, callV_func, app_nil, so_build, so_buildSlice, so_slice, s4_some, eo_none, eo_map, so_alloc_30, so_alloc_36, so_alloc_38, valueS_some, heapS_some, skipS_some, bi_len, Option.map_some, PMap.get_set, Nat.reduceEqDiff, two, three, Bool.not_true, Bool.not_false, if_true, if_false, reduceIte, Nat.one_ne_zero, Nat.zero_ne_one, up_down, down_self, cell_up, cell_down, row_up, row_down, next_add, next_set, next_up, up_add_down, ic_str, ic_int, ic_op, ic_sl, next_var, thenC_n, thenC_x, thenC_r, thenR_n, thenR_x, thenR_r, blockR_n, blockR_r, blockR_x, Nat.zero_add, decide_true, decide_false, fa_24_0, fa_24_1, fa_30_0, fa_30_1, fa_36_0, fa_36_1, fa_36_2, fa_38_0, fa_38_1, fa_45_0, fa_45_1, fa_45_2, ld_3, ld_9, ld_22, ld_27, ld_28, ld_34, ld_43, ld_24, ld_30, ld_38, ld_36, eg_lss, eg_gtr, eg_leq, eg_add, eg_sub, eg_rem, eg_eql, egn_eql, egs_eql, eg_neq, egn_neq, egs_neq, egc, bo_lss, bo_gtr, bo_leq, bo_neq, bo_eqln, bo_eql, bo_lssi, bo_addi, bo_subi, bs_lss, bs_eql, bs_neq, bc_neq, uo_not, ec_0, ec_1, ec_2, ec_3, ec_4, ec_5, ec_6, ec_8, ec_16, ec_20, ec_10000, ec_10001, ec_1000000, ec_str, ec_bool, ec_nil, ec_tmp, ec_func, h5]) (by simp -implicitDefEqProofs only [wp_go, wp_open, wp_guard, wp_nil, guardK_tt, guardK_ff, guardK_tf, guardK_ft, sk_value, sk_skip, so_value, so_skip, put_some, put_none, so_move, so_assign, so_pick, pickS_true, pickS_false, s1_some, s2_some, so_load, so_store, so_bin, binS, so_un, so_fa, so_ix, so_box, ea, ep, sl1_some, sp1_some, so_builtin, so_call, callV_func, app_nil, so_build, so_buildSlice, so_slice, s4_some, eo_none, eo_map, so_alloc_30, so_alloc_36, so_alloc_38, valueS_some, heapS_some, skipS_some, bi_len, Option.map_some, PMap.get_set, Nat.reduceEqDiff, two, three, Bool.not_true, Bool.not_false, if_true, if_false, reduceIte, Nat.one_ne_zero, Nat.zero_ne_one, up_down, down_self, cell_up, cell_down, row_up, row_down, next_add, next_set, next_up, up_add_down, ic_str, ic_int, ic_op, ic_sl, next_var, thenC_n, thenC_x, thenC_r, thenR_n, thenR_x, thenR_r, blockR_n, blockR_r, blockR_x, Nat.zero_add, decide_true, decide_false, fa_24_0, fa_24_1, fa_30_0, fa_30_1, fa_36_0, fa_36_1, fa_36_2, fa_38_0, fa_38_1, fa_45_0, fa_45_1, fa_45_2, ld_3, ld_9, ld_22, ld_27, ld_28, ld_34, ld_43, ld_24, ld_30, ld_38, ld_36, eg_lss, eg_gtr, eg_leq, eg_add, eg_sub, eg_rem, eg_eql, egn_eql, egs_eql, eg_neq, egn_neq, egs_neq, egc, bo_lss, bo_gtr, bo_leq, bo_neq, bo_eqln, bo_eql, bo_lssi, bo_addi, bo_subi, bs_lss, bs_eql, bs_neq, bc_neq, uo_not, ec_0, ec_1, ec_2, ec_3, ec_4, ec_5, ec_6, ec_8, ec_16, ec_20, ec_10000, ec_10001, ec_1000000, ec_str, ec_bool, ec_nil, ec_tmp, ec_func])) ?_
    rintro o e H' ⟨q1, q2, q3, q4, q5⟩
    refine ⟨q1, q2, q3, q4, fun t ht => (q5 t ht).trans ?_⟩
    have : ∀ j, 6 ≤ j → ¬ t = j := fun j hj => by omega
    simp [PMap.get_set, this]

end Go.Proofs.YtaliknnfbjehhaaDoor.CS
