/-
  Code whose calls are answered by some function.
-/
import Derived.Test.YtaliknnfbjehhaaDoorAbsSim
set_option linter.all false
namespace Go.Abs
open Go.RowKit

noncomputable def execC (P : Program) (call : FuncId → List V → Heap → Option Rets) (k : Nat) : Nat → Code → Env → Heap → Option (List Res) :=
  Nat.rec (motive := fun _ => Nat → Code → Env → Heap → Option (List Res)) (fun _ _ _ _ => none) (fun _ ih => codeA P call ih) k

theorem execC_ok {P : Program} {call : FuncId → List V → Heap → Option Rets} (hF : Fit P) (hc : CallOk P call) : ∀ k, ExecOk P (execC P call k)
  | 0 => fun _ _ _ _ _ h => by cases h
  | k + 1 => codeA_ok hF (execC_ok hF hc k) hc

section
variable {P : Program} {call : FuncId → List V → Heap → Option Rets}

theorem C_region {k n : Nat} {c : Code} {ls : List LOp} (hl : lines n c = some ls) {env : Env} {h : Heap} {Q : Out → Env → Heap → Prop} (hw : WP P (call) ls env h (Q .normal)) : R (execC P call (k + 1) n c env h) Q := by
  unfold lines at hl
  split at hl
  · rename_i id ops
    obtain ⟨e', h', h1, h2⟩ := opsA_lines _ _ hl _ _ _ hw
    refine ⟨.normal, e', h', ?_, h2⟩
    show cRegion P (call) ops n env h = _
    simp only [cRegion, h1]
    rfl
  · rename_i id ops
    split at hl
    · rename_i hs
      rw [Bool.and_eq_true] at hs
      obtain ⟨r, h1, h2⟩ := openOps_lines _ _ hl _ _ _ hw
      refine ⟨.normal, r.1, r.2, ?_, h2⟩
      show cOpen P (call) ops n env h = _
      simp only [cOpen, hs.1, h1, apartFree_ok hs.2]
      rfl
    · cases hl
  · cases hl

def thenC (P : Program) (call : FuncId → List V → Heap → Option Rets) (k n : Nat) (b : Code) (Q : Out → Env → Heap → Prop) : Out → Env → Heap → Prop
  | .normal, e, h => R (execC P call k n b e h) Q
  | o, e, h => Q o e h

theorem C_seq {k n : Nat} {a b : Code} {env : Env} {h : Heap} {Q : Out → Env → Heap → Prop} (hw : R (execC P call k n a env h) (thenC P call k n b Q)) : R (execC P call (k + 1) n (.seq a b) env h) Q := by
  obtain ⟨o, e, h', h1, h2⟩ := hw
  cases o with
  | normal =>
    obtain ⟨o2, e2, h2', h3, h4⟩ := h2
    refine ⟨o2, e2, h2', ?_, h4⟩
    show cSeq (execC P call k) a b n env h = _
    simp only [cSeq, h1, thensA, thenA]
    exact h3
  | _ =>
    refine ⟨_, e, h', ?_, h2⟩
    show cSeq (execC P call k) a b n env h = _
    simp only [cSeq, h1, thensA, thenA]

theorem C_loop {k n : Nat} {c : Code} {env : Env} {h : Heap} {Q : Out → Env → Heap → Prop} (hw : R (execC P call k n c env h) (thenC P call k n (.loop c) Q)) : R (execC P call (k + 1) n (.loop c) env h) Q := by
  obtain ⟨o, e, h', h1, h2⟩ := hw
  cases o with
  | normal =>
    obtain ⟨o2, e2, h2', h3, h4⟩ := h2
    refine ⟨o2, e2, h2', ?_, h4⟩
    show cLoop (execC P call k) c n env h = _
    simp only [cLoop, h1, thensA, thenA]
    exact h3
  | _ =>
    refine ⟨_, e, h', ?_, h2⟩
    show cLoop (execC P call k) c n env h = _
    simp only [cLoop, h1, thensA, thenA]

theorem C_cond {k n : Nat} {c : Operand} {a b : Code} {env : Env} {h : Heap} {Q : Out → Env → Heap → Prop} {t : Bool} (hc : evalA env c = some (.bool t)) (ha : t = true → R (execC P call k n a env h) Q) (hb : t = false → R (execC P call k n b env h) Q) :
    R (execC P call (k + 1) n (.cond c a b) env h) Q := by
  cases t with
  | true =>
    obtain ⟨o, e, h', h1, h2⟩ := ha rfl
    refine ⟨o, e, h', ?_, h2⟩
    show cCond (execC P call k) c a b n env h = _
    simp only [cCond, hc]; exact h1
  | false =>
    obtain ⟨o, e, h', h1, h2⟩ := hb rfl
    refine ⟨o, e, h', ?_, h2⟩
    show cCond (execC P call k) c a b n env h = _
    simp only [cCond, hc]; exact h1

theorem C_block {k n id : Nat} {c : Code} {env : Env} {h : Heap} {Q : Out → Env → Heap → Prop} (hw : R (execC P call k n c env h) (blockR id Q)) : R (execC P call (k + 1) n (.block id c) env h) Q := by
  obtain ⟨o, e, h', h1, h2⟩ := hw
  have hgo : execC P call (k + 1) n (.block id c) env h = some [leaveBlock id (o, e, h')] := by
    show cBlock (execC P call k) id c n env h = _
    simp only [cBlock, h1]
    rfl
  cases o with
  | exit i =>
    simp only [blockR] at h2
    simp only [leaveBlock] at hgo
    cases hi : Nat.beq i id with
    | true => rw [hi] at hgo h2; exact ⟨_, _, _, hgo, h2⟩
    | false => rw [hi] at hgo h2; exact ⟨_, _, _, hgo, h2⟩
  | normal => exact ⟨_, _, _, hgo, h2⟩
  | ret => exact ⟨_, _, _, hgo, h2⟩

theorem C_skip {k n : Nat} {env : Env} {h : Heap} {Q : Out → Env → Heap → Prop} (hw : Q .normal env h) : R (execC P call (k + 1) n .skip env h) Q := ⟨.normal, env, h, rfl, hw⟩
theorem C_exit {k n id : Nat} {env : Env} {h : Heap} {Q : Out → Env → Heap → Prop} (hw : Q (.exit id) env h) : R (execC P call (k + 1) n (.exit id) env h) Q := ⟨.exit id, env, h, rfl, hw⟩
theorem C_ret {k n : Nat} {env : Env} {h : Heap} {Q : Out → Env → Heap → Prop} (hw : Q .ret env h) : R (execC P call (k + 1) n .ret env h) Q := ⟨.ret, env, h, rfl, hw⟩

theorem thenC_n (P : Program) (k n : Nat) (b : Code) (Q : Out → Env → Heap → Prop) (e : Env) (h : Heap) : thenC P call k n b Q .normal e h = R (execC P call k n b e h) Q := rfl
theorem thenC_x (P : Program) (k n : Nat) (b : Code) (Q : Out → Env → Heap → Prop) (i : Nat) (e : Env) (h : Heap) : thenC P call k n b Q (.exit i) e h = Q (.exit i) e h := rfl
theorem thenC_r (P : Program) (k n : Nat) (b : Code) (Q : Out → Env → Heap → Prop) (e : Env) (h : Heap) : thenC P call k n b Q .ret e h = Q .ret e h := rfl

end
end Go.Abs
