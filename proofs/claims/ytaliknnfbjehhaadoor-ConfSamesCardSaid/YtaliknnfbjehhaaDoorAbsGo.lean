/-
  Parts of code, by the way to them.
-/
import Derived.Test.YtaliknnfbjehhaaDoorAbsAt
set_option linter.all false
namespace Go.Abs
def c1 : Code → Code
  | .seq a _ => a
  | .cond _ a _ => a
  | .block _ c => c
  | .loop c => c
  | c => c
def c2 : Code → Code
  | .seq _ b => b
  | .cond _ _ b => b
  | c => c
end Go.Abs

/-
  What is asked of a program: its functions without a body.
-/
namespace Go.Abs
open Go.RowKit

theorem find_range (p : UInt8 → Bool) : ∀ l : List UInt8, (List.range l.length).find? (fun i => p (l[i]!)) = l.findIdx? p
  | [] => rfl
  | x :: l => by
    rw [List.length_cons, List.range_succ_eq_map, List.find?_cons, List.findIdx?_cons]
    by_cases hx : p x = true
    · simp [hx]
    · have hx' : p x = false := by simpa using hx
      have ih := find_range p l
      simp only [List.getElem!_cons_zero, hx', Bool.false_eq_true, if_false, List.find?_map]
      rw [← ih]
      rfl

theorem index_ok {P : Program} {w : World} (s : List UInt8) (c : Int) :
    (Extern.BytealgIndexByte.indexByte #[.string (str s), .int .u8 c]).run P w = .ok (.int .i64 (match s.findIdx? (· == UInt8.ofNat c.toNat) with | some i => (i : Int) | none => -1)) w := by
  rw [run_indexByte_string]
  congr 2
  unfold firstIdx
  have h : (List.range (str s).size).find? (fun i => (str s)[i]! == c.toNat.toUInt8) = s.findIdx? (· == UInt8.ofNat c.toNat) := by
    rw [← find_range (· == UInt8.ofNat c.toNat) s]
    have hsz : (str s).size = s.length := by simp [str, ByteArray.size]
    rw [hsz]
    congr 1
    funext i
    have hg : (str s)[i]! = s[i]! := by
      by_cases hi : i < s.length
      · rw [getElem!_pos (str s) i (by rw [hsz]; exact hi), getElem!_pos s i hi]; rfl
      · rw [getElem!_neg (str s) i (by rw [hsz]; exact hi), getElem!_neg s i hi]
    rw [hg]
  rw [h]
  generalize List.findIdx? (fun x => x == UInt8.ofNat c.toNat) s = o
  cases o <;> rfl

/-- A program fits: by closed facts on its functions' names. -/
theorem Fit.of {P : Program} (hm : P.follows .mixedOrders = true) (hn : (P.funcs.all fun fn => fn.body.isNone || !(fn.name == "runtime.NumGoroutine")) = true)
    (hx : ∀ (f : FuncId) (fn : Func), P.funcs[f]? = some fn → fn.body = none → (fn.name == "internal/bytealg.IndexByteString") = true → Extern.findNext fn = none ∧ Extern.find fn = some Extern.BytealgIndexByte.indexByte) : Fit P where
  mixed := hm
  names := fun f fn c hf hb => by
    have hmem : fn ∈ P.funcs := Array.mem_of_getElem? hf
    have := (Array.all_eq_true_iff_forall_mem.1 hn) fn hmem
    rw [hb] at this
    simpa using this
  exts := fun f fn hf hb args v hv φ w => by
    unfold externA at hv
    split at hv
    · rename_i s c hname
      obtain ⟨h1, h2⟩ := hx f fn hf hb hname
      have hng : (fn.name == "runtime.NumGoroutine") = false := by
        rw [beq_iff_eq] at hname
        rw [hname]; decide
      have hrun := run_callFunc_extern (P := P) hf hng (by rw [hb]; rfl) h1 h2 (concL φ [.str s, .int .u8 c]).toArray w
      have hidx := index_ok (P := P) (w := w) s c
      rw [show (concL φ [.str s, .int .u8 c]).toArray = #[.string (str s), .int .u8 c] from rfl] at hrun ⊢
      rw [hrun, hidx]
      split at hv <;> rename_i heq <;> simp only [Option.some.injEq] at hv <;> subst hv <;> rw [heq] <;> exact ⟨rfl, fun _ => trivial⟩
    · cases hv

end Go.Abs

/-
  Small rules for walks over written states.
-/
namespace Go.Abs
open Go.RowKit

section
variable {P : Program}

/-- A slot of a state. -/
theorem At.slot {n : Nat} {L : Lit} {xs : List (Nat × V)} {w0 : World} {a : Act} {w : World} (hA : At n L xs w0 a w) {t : Nat} {v : V} (hg : (envOf (app xs L.env)).get t = some v) (hv : v.ok fun _ => False) : a.tmps[t]? = some (conc Phi.none v) := by
  obtain ⟨φ, hr, hE, -⟩ := hA
  rw [(hE.get t v hg).1, conc_closed hv φ Phi.none]

/-- A state that knows less. -/
theorem At.less {n : Nat} {L : Lit} {xs xs' : List (Nat × V)} {w0 : World} {a : Act} {w : World} (hA : At n L xs w0 a w) (h : ∀ t v, (envOf (app xs' L.env)).get t = some v → (envOf (app xs L.env)).get t = some v) : At n L xs' w0 a w := by
  obtain ⟨φ, hr, hE, hf, hb, hd⟩ := hA
  exact ⟨φ, hr, ⟨hE.size, fun t v hg => hE.get t v (h t v hg)⟩, hf, hb, hd⟩

theorem At.tail {n : Nat} {L : Lit} {s : Nat} {u : V} {xs : List (Nat × V)} {w0 : World} {a : Act} {w : World} (hA : At n L ((s, u) :: xs) w0 a w) (hs : (envOf (app xs L.env)).get s = Option.none) : At n L xs w0 a w :=
  hA.less fun t v hg => by
    have e : envOf (app ((s, u) :: xs) L.env) = (envOf (app xs L.env)).set s u := rfl
    rw [e, PMap.get_set]
    by_cases h : t = s
    · subst h; rw [hs] at hg; cases hg
    · rw [if_neg h]; exact hg

/-- A piece of code with one outcome. -/
theorem run_one {rec : Nat → Code → Env → Heap → Option (List Res)} (hrec : ExecOk P rec) {n : Nat} {c : Code} {env env' : Env} {h h' : Heap} {o : Out} (hrs : rec n c env h = some [(o, env', h')]) {φ : Phi} {w : World} {a : Act}
    (hr : Rel φ h w) (hE : EnvRel φ n env a.tmps) {Q : Exit → Act → World → Prop} (hQ : ∀ φ' a' w', Post φ h w φ' h' w' → EnvRel φ' n env' a'.tmps → a'.defers = a.defers → Q o.leave a' w') : c.wp P Q a w :=
  codeWp_wp (hrec _ _ _ _ _ hrs φ w a hr hE Q fun r hr' φ' a' w' p1 p2 p3 => by
    rw [List.mem_singleton] at hr'; subst hr'
    exact hQ φ' a' w' p1 p2 p3)

end
end Go.Abs
