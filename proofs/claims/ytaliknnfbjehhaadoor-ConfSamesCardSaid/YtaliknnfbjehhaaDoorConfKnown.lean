/-
  ConfSames: what is asked of the program; known.
-/
import Derived.Test.YtaliknnfbjehhaaDoorAbsExecC
import Derived.Test.YtaliknnfbjehhaaDoorConfTypes
import Derived.Lib.Bytealg
set_option linter.all false
namespace Go.Proofs.YtaliknnfbjehhaaDoor.CS
open Go.Abs Go.RowKit Go.Proofs Go.Lib
set_option maxRecDepth 100000

theorem ext_at : ((List.range Tryd.prog.funcs.size).all fun f => match Tryd.prog.funcs[f]? with | some fn => !(fn.name == "internal/bytealg.IndexByteString") || Nat.beq f 67 | none => true) = true := by kernel_rfl
theorem ext_next : Extern.findNext Tryd.f67 = none := by kernel_rfl
theorem ext_find : Extern.find Tryd.f67 = some Extern.BytealgIndexByte.indexByte := by kernel_rfl
theorem fit : Fit Tryd.prog := Fit.of (by kernel_rfl) (by kernel_rfl) fun f fn hf _ hn => by
  have h1 := List.all_eq_true.1 ext_at f (List.mem_range.2 (Array.getElem?_eq_some_iff.1 hf).1)
  rw [hf] at h1
  simp only [hn, Bool.not_true, Bool.false_or] at h1
  have e : f = 67 := Nat.eq_of_beq_eq_true h1
  subst e
  rw [Tryd.func67] at hf
  simp only [Option.some.injEq] at hf
  subst hf
  exact ⟨ext_next, ext_find⟩

/-! ### counting bytes -/

noncomputable def hookN (args : List V) (h : Heap) : Option Rets :=
  match args with
  | [.str s, .int .u8 c] => some [(.int .i64 (countByte s (UInt8.ofNat c.toNat) : Nat), h)]
  | _ => none
noncomputable def hookK (f : FuncId) : Option (List V → Heap → Option Rets) :=
  match Nat.beq f 40 with
  | true => some hookN
  | false => none

theorem cnt_next : Extern.findNext Tryd.f40 = none := by kernel_rfl
theorem cnt_find : Extern.find Tryd.f40 = some Extern.BytealgCount.count := by kernel_rfl
theorem cnt_name : (Tryd.f40.name == "runtime.NumGoroutine") = false := by kernel_rfl
theorem cnt_body : Tryd.f40.body.isNone = true := by kernel_rfl

theorem post_of_below {φ : Phi} {h : Heap} {w w' : World} (hr : Rel φ h w) (hb : Below w.heap.size w w') : Post φ h w φ h w' where
  pre := hr.lt
  ext := Ext.refl φ
  rel :=
    { blocks := fun b x hd hx => (hr.blocks b x hd hx).keep (Ext.refl φ) hd (hb.block _ (hr.size b hd))
      lt := hr.lt
      size := fun b hd => Nat.lt_of_lt_of_le (hr.size b hd) hb.size
      inj := hr.inj
      lims := hr.lims
      fz := hr.fz }
  fr := ⟨hb.os, hb.tape, hb.output, hb.size, fun k hk _ => hb.block k hk⟩
  news := fun b hd hn => absurd hd hn
  eff := Eff.refl h
  all := fun b h1 h2 => by omega

theorem hookK_ok : HookOk Tryd.prog hookK := by
  intro f g hg args h rs hrs
  unfold hookK at hg
  split at hg
  · rename_i hf
    have e : f = 40 := Nat.eq_of_beq_eq_true hf
    subst e
    simp only [Option.some.injEq] at hg
    subst hg
    unfold hookN at hrs
    split at hrs
    · rename_i s c
      simp only [Option.some.injEq] at hrs
      subst hrs
      intro φ w hr hok
      refine .inr ⟨_, φ, w, h, List.mem_singleton.2 rfl, ?_, Post.refl hr, trivial⟩
      have hrun := run_callFunc_extern (P := Tryd.prog) Tryd.func40 cnt_name cnt_body cnt_next cnt_find (concL φ [.str s, .int .u8 c]).toArray w
      rw [show (concL φ [.str s, .int .u8 c]).toArray = #[.string (str s), .int .u8 c] from rfl] at hrun ⊢
      rw [hrun, run_countString]
      rfl
    · cases hrs
  · cases hg

theorem known_run : values (callA Tryd.prog (execH Tryd.prog hookK 400) 4 [] Heap.none) = some [.bool true] := by kernel_rfl

theorem known_at (h : Heap) : CallOkAt Tryd.prog 4 [] h [(.bool true, h)] := by
  intro φ w hr hok
  cases hrun : callA Tryd.prog (execH Tryd.prog hookK 400) 4 [] Heap.none with
  | none => have := known_run; rw [hrun] at this; cases this
  | some rs =>
    have hv := known_run
    rw [hrun] at hv
    simp only [values, Option.some.injEq] at hv
    have hval : ∀ v h', (v, h') ∈ rs → v = .bool true := fun v h' hm => by
      have : v ∈ mapL Prod.fst rs := by rw [mapL_eq]; exact List.mem_map.2 ⟨_, hm, rfl⟩
      rw [hv] at this
      exact List.mem_singleton.1 this
    rcases callA_ok fit (execH_ok fit hookK_ok 400) 4 [] Heap.none rs hrun Phi.none w (Rel.none w) trivial with ⟨h1, h2⟩ | ⟨v, φ', w', h', h0, h1, h2, h3⟩
    · refine .inl ⟨h1, h2.mono fun e w' ⟨v, h', φ', q0, q1, q2, q3⟩ => ⟨.bool true, h, φ, List.mem_singleton.2 rfl, ?_, post_of_below hr q2.below, trivial⟩⟩
      rw [q1, hval v h' q0]; rfl
    · refine .inr ⟨.bool true, φ, w', h, List.mem_singleton.2 rfl, ?_, post_of_below hr h2.below, trivial⟩
      rw [hval v h' h0] at h1
      exact h1

end Go.Proofs.YtaliknnfbjehhaaDoor.CS
