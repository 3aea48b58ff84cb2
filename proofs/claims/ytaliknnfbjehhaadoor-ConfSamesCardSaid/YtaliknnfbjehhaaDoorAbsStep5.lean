/-
  Each operation's step is the model's: slices, values that are put together.
-/
import Derived.Test.YtaliknnfbjehhaaDoorAbsStep4
set_option linter.all false
namespace Go.Abs
open Go.RowKit

section
variable {P : Program} {φ : Phi} {h : Heap} {w : World} {n : Nat} {env : Env} {a : Act}

theorem evalOpt_conc (hE : EnvRel φ n env a.tmps) {x : Option Operand} {y : Option V} (hx : evalOpt env x = some y) : x.map a.eval = y.map (conc φ) := by
  cases x with
  | none => simp only [evalOpt, Option.some.injEq] at hx; subst hx; rfl
  | some x =>
    simp only [evalOpt] at hx
    split at hx
    · rename_i v hv
      simp only [Option.some.injEq] at hx; subst hx
      simp [(evalA_conc hE hv).1]
    · cases hx

theorem boundA_run {v : V} {y Y m : Nat} {code : BoundsCode} (hb : boundA v y = some m) (hY : y ≤ Y) : (Instr.sliceBound (conc φ v) Y code).run P w = .ok m w ∧ m ≤ y := by
  unfold boundA at hb
  split at hb
  · rename_i k i
    split at hb
    · rename_i h0 h1
      simp only [Option.some.injEq] at hb; subst hb
      have g0 : 0 ≤ i := by have := ltI_false (by simpa using h0); omega
      have g1 : i ≤ (y : Int) := by have := ltI_false (by simpa using h1); omega
      have g2 : i ≤ (Y : Int) := by omega
      exact ⟨by simp [Instr.sliceBound, conc, asIntOf, g0, g2], by omega⟩
    · cases hb
  · cases hb

theorem boundsA_run {len c C l hi m : Nat} (hC : c ≤ C) {low high max : Option V} (hb : boundsA len c low high max = some (l, hi, m)) (isS : Bool) :
    (Instr.sliceBounds isS len C (low.map (conc φ)) (high.map (conc φ)) (max.map (conc φ))).run P w = .ok (l, hi, if max.isSome then m else C) w ∧ l ≤ hi ∧ (max = none → m = c ∧ (hi = len ∨ hi ≤ c)) := by
  unfold boundsA at hb
  cases max with
  | some mv =>
    simp only at hb
    split at hb
    · cases hb
    · rename_i m' hm
      obtain ⟨r1, r1'⟩ := boundA_run (P := P) (w := w) (φ := φ) (code := if isS then .slice3Acap else .slice3Alen) hm hC
      cases high with
      | none => simp at hb
      | some hv =>
        simp only at hb
        split at hb
        · cases hb
        · rename_i hi' hh
          obtain ⟨r2, r2'⟩ := boundA_run (P := P) (w := w) (φ := φ) (code := .slice3B) hh (Nat.le_refl _)
          cases low with
          | none =>
            simp only [Option.some.injEq, Prod.mk.injEq] at hb
            obtain ⟨rfl, rfl, rfl⟩ := hb
            exact ⟨by simp [Instr.sliceBounds, r1, r2], Nat.zero_le _, fun h => by cases h⟩
          | some lv =>
            simp only at hb
            split at hb
            · cases hb
            · rename_i l' hl
              obtain ⟨r3, r3'⟩ := boundA_run (P := P) (w := w) (φ := φ) (code := .slice3C) hl (Nat.le_refl _)
              simp only [Option.some.injEq, Prod.mk.injEq] at hb
              obtain ⟨rfl, rfl, rfl⟩ := hb
              exact ⟨by simp [Instr.sliceBounds, r1, r2, r3], r3', fun h => by cases h⟩
  | none =>
    simp only at hb
    cases high with
    | none =>
      simp only at hb
      cases low with
      | none =>
        simp only [Option.some.injEq, Prod.mk.injEq] at hb
        obtain ⟨rfl, rfl, rfl⟩ := hb
        exact ⟨by simp [Instr.sliceBounds], Nat.zero_le _, fun _ => ⟨rfl, .inl rfl⟩⟩
      | some lv =>
        simp only at hb
        split at hb
        · cases hb
        · rename_i l' hl
          obtain ⟨r3, r3'⟩ := boundA_run (P := P) (w := w) (φ := φ) (code := .sliceB) hl (Nat.le_refl _)
          simp only [Option.some.injEq, Prod.mk.injEq] at hb
          obtain ⟨rfl, rfl, rfl⟩ := hb
          exact ⟨by simp [Instr.sliceBounds, r3], r3', fun _ => ⟨rfl, .inl rfl⟩⟩
    | some hv =>
      simp only at hb
      split at hb
      · cases hb
      · rename_i hi' hh
        obtain ⟨r2, r2'⟩ := boundA_run (P := P) (w := w) (φ := φ) (code := if isS then .sliceAcap else .sliceAlen) hh hC
        cases low with
        | none =>
          simp only [Option.some.injEq, Prod.mk.injEq] at hb
          obtain ⟨rfl, rfl, rfl⟩ := hb
          exact ⟨by simp [Instr.sliceBounds, r2], Nat.zero_le _, fun _ => ⟨rfl, .inr r2'⟩⟩
        | some lv =>
          simp only at hb
          split at hb
          · cases hb
          · rename_i l' hl
            obtain ⟨r3, r3'⟩ := boundA_run (P := P) (w := w) (φ := φ) (code := .sliceB) hl (Nat.le_refl _)
            simp only [Option.some.injEq, Prod.mk.injEq] at hb
            obtain ⟨rfl, rfl, rfl⟩ := hb
            exact ⟨by simp [Instr.sliceBounds, r2, r3], r3', fun _ => ⟨rfl, .inr r2'⟩⟩

/-- A name that is dead from the beginning. -/
theorem Post.dead (hr : Rel φ h w) (blk base tot : Nat) (hb : blk < w.heap.size) : Post φ h w (φ.add h.next blk base tot) (h.new .dead).2 w := by
  have hnd : ¬ φ.dom h.next := fun hd => Nat.lt_irrefl _ (hr.lt _ hd)
  have he := Ext.add hnd blk base tot
  have hdead : ¬ live (h.new .dead).2 h.next := fun ⟨y, hy, hn⟩ => by
    rw [Heap.get_new h (by have := hr.lims; omega), if_pos rfl] at hy
    simp only [Option.some.injEq] at hy; exact hn hy.symm
  have hlive : ∀ b, live (h.new .dead).2 b → b ≠ h.next → live h b := fun b ⟨y, hy, hd⟩ hb => ⟨y, by rw [Heap.get_new h (by have := hr.lims; omega), if_neg hb] at hy; exact hy, hd⟩
  refine ⟨⟨hr.lt, he, ⟨?_, ?_, ?_, ?_, ?_, hr.fz⟩, Fr.refl _ _ _, ?_, Eff.new h hr.lims _⟩, fun b h1 h2 => .inl (by have h3 : b < h.next + 1 := h2; omega)⟩
  · intro b y hd hy
    rw [Heap.get_new h (by have := hr.lims; omega)] at hy
    by_cases e : b = h.next
    · subst e; simp at hy; subst hy; exact trivial
    · rw [if_neg e] at hy
      have hd' : φ.dom b := hd.resolve_left e
      exact (hr.blocks b y hd' hy).keep he hd' rfl
  · intro b hd
    show b < h.next + 1
    rcases hd with e | hd
    · omega
    · have := hr.lt b hd; omega
  · intro b hd
    by_cases e : b = h.next
    · subst e; rw [Phi.add_blk]; exact hb
    · have hd' : φ.dom b := hd.resolve_left e
      rw [he.blk b hd']; exact hr.size b hd'
  · intro b b' hd hd' hl hv hv' heq
    by_cases e : b = h.next
    · subst e; exact absurd hv hdead
    · by_cases e' : b' = h.next
      · subst e'; exact absurd hv' hdead
      · have g : φ.dom b := hd.resolve_left e
        have g' : φ.dom b' := hd'.resolve_left e'
        rw [he.blk b g, he.blk b' g'] at heq
        exact hr.inj b b' g g' hl (hlive b hv e) (hlive b' hv' e') heq
  · show h.lim0 ≤ h.lim ∧ h.lim ≤ h.next + 1
    have := hr.lims; omega
  · intro b hd hn
    have e : b = h.next := hd.resolve_right hn
    subst e
    exact ⟨Nat.le_refl _, fun hv => absurd hv hdead⟩

theorem knownA_spec {b off e c : Nat} (hr : Rel φ h w) (hd : φ.dom b) (hk : knownA h b off e = some c) :
    0 < e ∧ c ≤ (φ.tot b - (φ.base b + off)) / e ∧ ∃ o cs, h.get b = some (.row o cs) ∧ off ≤ cs.length ∧ c = (cs.length - off) / e := by
  unfold knownA at hk
  split at hk
  · rename_i o cs e' hrow
    rw [lenL_eq] at hk
    split at hk
    · rename_i hle
      simp only [Option.some.injEq] at hk; subst hk
      have hget := Heap.row_some hrow
      obtain ⟨C, t, lo, hi, h1, h2, h3, h4, h5, h6⟩ := hr.blocks b _ hd hget
      have hle' := Nat.le_of_ble_eq_true hle
      exact ⟨by omega, Nat.div_le_div_right (by omega), o, cs, hget, hle', rfl⟩
    · cases hk
  · cases hk

theorem str_extract (l : List UInt8) (i j : Nat) : (str l).extract i j = str ((l.drop i).take (j - i)) := by
  have : ((str l).extract i j).data.toList = ((l.drop i).take (j - i)) := by
    rw [ByteArray.data_extract]; simp [str]
  have h2 := str_toList ((str l).extract i j)
  rw [this] at h2; exact h2.symm

theorem sSlice_ok (hr : Rel φ h w) (hE : EnvRel φ n env a.tmps) {o : Oper} {t : TypeId} {x : Operand} {lo hi mx : Option Operand} (ho : o.op = .slice t x lo hi mx) {s : Step} (hs : sSlice P t x lo hi mx env h = some s) :
    StepOk P φ h w ((execOp a.eval o).run P w) s := by
  unfold sSlice at hs
  split at hs
  · rename_i p lv hv mv hp hlo hhi hmx
    obtain ⟨h1, h2⟩ := evalA_conc hE hp
    have e1 := evalOpt_conc hE hlo
    have e2 := evalOpt_conc hE hhi
    have e3 := evalOpt_conc hE hmx
    obtain ⟨v, h', hvv, rfl⟩ := heapS_some hs
    clear hs
    have hop : (execOp a.eval o) = (do pure (.value (← Instr.sliceAt t (conc φ p) (lv.map (conc φ)) (hv.map (conc φ)) (mv.map (conc φ))))) := by
      simp only [execOp, ho, h1, e1, e2, e3]
    rw [hop]
    unfold sliceA at hvv
    split at hvv
    · rename_i l hu
      split at hvv
      · cases hvv
      · rw [lenL_eq] at hvv
        split at hvv
        · rename_i i j m hb
          simp only [Option.some.injEq, Prod.mk.injEq] at hvv
          obtain ⟨rfl, rfl⟩ := hvv
          obtain ⟨r1, r2, r3⟩ := boundsA_run (P := P) (w := w) (φ := φ) (Nat.le_refl _) hb false
          refine stepOk_value hr ?_ trivial
          rw [takeL_eq, dropL_eq]
          simp only [Option.map_none] at r1
          simp [Instr.sliceAt, conc, run_underlying hu, Instr.slice, str_size, r1, str_extract]
        · cases hvv
    · rename_i e ad len cap hu
      split at hvv
      · rename_i i j m k hb hk
        obtain ⟨inf, g1, g2⟩ := size_info hk
        obtain ⟨r1, r2, r3⟩ := boundsA_run (P := P) (w := w) (φ := φ) (Nat.le_refl _) hb true
        have hm : (if mv.isSome then m else cap) = m := by
          cases mv with
          | none => simp only [Option.isSome_none, Bool.false_eq_true, if_false]; exact (r3 rfl).1.symm
          | some _ => rfl
        rw [hm] at r1
        split at hvv
        · rename_i hml
          simp only [Option.some.injEq, Prod.mk.injEq] at hvv
          obtain ⟨rfl, rfl⟩ := hvv
          have hml' := Nat.eq_of_beq_eq_true hml
          refine stepOk_value hr ?_ ?_
          · cases ad <;> simp [Instr.sliceAt, conc, run_underlying hu, Instr.slice, r1, run_sizeOf g1, hml']
          · cases ad <;> exact h2
        · rename_i hml
          have hml' : ¬ m = i := fun e => by subst e; simp at hml
          split at hvv
          · rename_i b off
            simp only [Option.some.injEq, Prod.mk.injEq] at hvv
            obtain ⟨rfl, rfl⟩ := hvv
            refine stepOk_value hr ?_ h2
            have hadd : (φ.addr (b, off)).add (i * inf.size) = φ.addr (b, off + i * k) := by simp only [Phi.addr, Addr.add_none, Nat.add_assoc, g2]
            simp [Instr.sliceAt, conc, run_underlying hu, Instr.slice, r1, run_sizeOf g1, hml', hadd]
          · simp only [Option.some.injEq, Prod.mk.injEq] at hvv
            obtain ⟨rfl, rfl⟩ := hvv
            refine stepOk_value hr ?_ trivial
            simp [Instr.sliceAt, conc, run_underlying hu, Instr.slice, r1, run_sizeOf g1, hml']
      · cases hvv
    · rename_i e b off len es hu
      split at hvv
      · rename_i c k hkn hk
        obtain ⟨inf, g1, g2⟩ := size_info hk
        obtain ⟨hpos, hcC, -⟩ := knownA_spec hr h2 hkn
        obtain ⟨C, hCe⟩ : ∃ C, C = (φ.tot b - (φ.base b + off)) / es := ⟨_, rfl⟩
        rw [← hCe] at hcC
        split at hvv
        · rename_i hne hlc
          have hne' : k = es := Nat.eq_of_beq_eq_true hne
          have hlc' := Nat.le_of_ble_eq_true hlc
          split at hvv
          · rename_i i j m hb
            obtain ⟨r1, r2, r3⟩ := boundsA_run (P := P) (w := w) (φ := φ) hcC hb true
            have hadd : (φ.addr (b, off)).add (i * inf.size) = φ.addr (b, off + i * k) := by simp only [Phi.addr, Addr.add_none, Nat.add_assoc, g2]
            have hconc : conc φ (.oslice b off len es) = .slice (some (φ.addr (b, off))) len C := by simp only [conc, hCe]
            rw [hconc]
            split at hvv
            · rename_i mv'
              simp only [Option.isSome_some, if_true] at r1
              split at hvv
              · rename_i hml
                have hml' := Nat.eq_of_beq_eq_true hml
                simp only [Option.some.injEq, Prod.mk.injEq] at hvv
                obtain ⟨rfl, rfl⟩ := hvv
                refine stepOk_value hr ?_ h2
                simp only [Option.map_some] at r1
                subst hml'
                simp [Instr.sliceAt, conc, run_underlying hu, Instr.slice, r1, run_sizeOf g1]
              · rename_i hml
                have hml' : ¬ m = i := fun e => by subst e; simp at hml
                simp only [Option.some.injEq, Prod.mk.injEq] at hvv
                obtain ⟨rfl, rfl⟩ := hvv
                refine stepOk_value hr ?_ h2
                simp only [Option.map_some] at r1
                simp [Instr.sliceAt, conc, run_underlying hu, Instr.slice, r1, run_sizeOf g1, hml', hadd]
            · simp only [Option.isSome_none, Bool.false_eq_true, if_false, Option.map_none] at r1
              obtain ⟨hmc, hjc⟩ := r3 rfl
              split at hvv
              · rename_i hcase
                simp only [Option.some.injEq, Prod.mk.injEq] at hvv
                obtain ⟨rfl, rfl⟩ := hvv
                refine stepOk_value hr ?_ h2
                have hcap : (φ.tot b - (φ.base b + (off + i * k))) / es = C - i := by
                  rw [hCe, hne', show φ.tot b - (φ.base b + (off + i * es)) = φ.tot b - (φ.base b + off) - es * i from by rw [Nat.mul_comm es i]; omega, Nat.sub_mul_div]
                have haddr : (if C = i then φ.addr (b, off) else φ.addr (b, off + i * k)) = φ.addr (b, off + i * k) := by
                  rw [Bool.or_eq_true] at hcase
                  rcases hcase with h0 | h0
                  · have : i = 0 := by have := Nat.le_of_ble_eq_true h0; omega
                    subst this
                    simp
                  · have : i < c := by simp only [Nat.blt, Nat.ble_eq] at h0; omega
                    rw [if_neg (by omega)]
                simp [Instr.sliceAt, conc, run_underlying hu, Instr.slice, r1, run_sizeOf g1, hadd, hcap]
                intro hci
                rwa [if_pos hci] at haddr
              · rename_i hcase
                simp only [Heap.new, Option.some.injEq, Prod.mk.injEq] at hvv
                obtain ⟨rfl, rfl⟩ := hvv
                have hi0 : ¬ i = 0 := fun e => by subst e; simp at hcase
                have hic : ¬ i < c := fun e => by
                  have : Nat.blt i c = true := by simp only [Nat.blt, Nat.ble_eq]; omega
                  rw [this] at hcase; simp at hcase
                have hj : j = i := by omega
                have hsz := hr.size b h2
                by_cases hCi : C = i
                · have hcon : conc (φ.add h.next (φ.blk b) (φ.base b + off) (φ.base b + off)) (.oslice h.next 0 0 es) = .slice (some (φ.addr (b, off))) 0 0 := by
                    simp [conc, Phi.addr, Phi.add_blk, Phi.add_base, Phi.add_tot]
                  refine ⟨φ.add h.next (φ.blk b) (φ.base b + off) (φ.base b + off), w, ?_, Post.dead hr _ _ _ hsz, .inl rfl⟩
                  rw [hCi] at r1
                  simp [Instr.sliceAt, hcon, run_underlying hu, Instr.slice, r1, run_sizeOf g1, hCi, hj]
                · have hcap : (φ.tot b - (φ.base b + (off + i * k))) / es = C - i := by
                    rw [hCe, hne', show φ.tot b - (φ.base b + (off + i * es)) = φ.tot b - (φ.base b + off) - es * i from by rw [Nat.mul_comm es i]; omega, Nat.sub_mul_div]
                  have hcon : conc (φ.add h.next (φ.blk b) (φ.base b + (off + i * k)) (φ.tot b)) (.oslice h.next 0 0 es) = .slice (some (φ.addr (b, off + i * k))) 0 (C - i) := by
                    simp [conc, Phi.addr, Phi.add_blk, Phi.add_base, Phi.add_tot, hcap]
                  refine ⟨φ.add h.next (φ.blk b) (φ.base b + (off + i * k)) (φ.tot b), w, ?_, Post.dead hr _ _ _ hsz, .inl rfl⟩
                  simp [Instr.sliceAt, hcon, run_underlying hu, Instr.slice, r1, run_sizeOf g1, hCi, hj, hadd]
          · cases hvv
        · cases hvv
      · cases hvv
    · cases hvv
  · cases hs

end
end Go.Abs
