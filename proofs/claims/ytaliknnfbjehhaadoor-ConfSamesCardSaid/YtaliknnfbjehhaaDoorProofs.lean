/-
  'dispatchlaw5.ConfSames' returns true at every input, and leaves its input as it was: its card, tied to the program's text (taking what the card says of the listed package-level variables).
-/
import Derived.Test.YtaliknnfbjehhaaDoorConfTop
import Derived.Test.YtaliknnfbjehhaaDoorTie
import Derived.Test.YtaliknnfbjehhaaDoorConfFact
import Derived.Test.YtaliknnfbjehhaaDoorCards
import Derived.WalkKit
import Derived.ProofKit
import Derived.OpenShut
import Derived.ChangeVars
import Derived.LaidLaws
import Derived.LaidHandle
import Derived.SevenTiedAt
set_option linter.all false
namespace Go.Proofs.YtaliknnfbjehhaaDoor
open Go Go.ChangeShapes Go.WideShapes Go.ChangeAt Go.RowKit
set_option maxRecDepth 100000

theorem own : ownKnob Tryd.prog.godebug = none := by kernel_rfl

/-! ### a world in which the listed variables read as listed -/

def litsOf : Nat → DataW Unit → List Value
  | _, .lit l => [l.value]
  | n + 1, .agg ps => ps.flatMap (litsOf n)
  | _, _ => []
def putCells (vs : List Value) : Obj → Obj
  | .cells _ t fr => .cells vs.toArray t fr
  | o => o
def bytesOf : DataW Unit → List UInt8
  | .iface _ (.ptr (.agg [.lit (.string b)])) => b
  | _ => []
noncomputable def laidWorld (os : Os) : World :=
  let w0 := World.holding Tryd.prog os ⟨#[], #[], []⟩
  let n := w0.heap.size
  { w0 with heap := ((((((((w0.heap.modify 1 (putCells (litsOf 3 Rows.laid_unicode_utf8_first))).modify 2 (putCells (litsOf 3 Rows.laid_unicode_utf8_acceptRanges))).modify 5 (putCells (litsOf 3 Rows.laid_internal_strconv_uint64pow10))).modify 6
      (putCells (litsOf 3 Rows.laid_math_bits_deBruijn32tab))).modify 7 (putCells (litsOf 3 Rows.laid_math_bits_deBruijn64tab))).modify 3 (putCells [.iface 121 (.pointer (some ⟨n, 0, none⟩))])).modify 4 (putCells [.iface 121 (.pointer (some ⟨n + 1, 0, none⟩))])).push
      (.cells #[.string ⟨(bytesOf Rows.laid_strconv_ErrSyntax).toArray⟩] 123)).push (.cells #[.string ⟨(bytesOf Rows.laid_strconv_ErrRange).toArray⟩] 123) }

theorem laidWorld_met (os : Os) (args : Array Value) : laidMetH Tryd.prog Rows.confSamesRow.laid ((laidWorld os).forCall (fun _ _ => 0) ⟨#[], args, []⟩).memory := by
  exact laidMetH_of_parts (laidMet_of_run' 8 (by kernel_rfl) (by kernel_rfl)) (by kernel_rfl)

/-! ### the row -/

/-- Where the arguments read behind the call as before, and what was read before is frozen no more than it was. -/
theorem post_of_kept {H : Type} {enc : TypeId × Value → H} {f : Func} {s : ChangeSpec} {apart fresh handsOn again : Bool} {W W' : World} {args : Array Value} {v : Value} {ds gs : List (DataW H)} {before pa pv : List MemPlace}
    (hW : DataW.Whole enc Tryd.prog f.params.toList s.vars apart W args.toList ds gs before)
    (hres : ∀ (b : Nat) (sp : Nat → Bool) (hd : Bool), DataW.TrodAll enc Tryd.prog W' b sp hd f.resultTypes.toList (v.resultList f.resultTypes.size) (s.fn H (ds ++ gs)).results [])
    (hargs : ∀ sp : Nat → Bool, (∀ p ∈ before, sp p.block = true) → DataW.TrodAll enc Tryd.prog W' 0 sp true f.params.toList args.toList (s.fn H (ds ++ gs)).args pa)
    (hvars : ∀ sp : Nat → Bool, (∀ p ∈ before, sp p.block = true) → DataW.TrodVars enc Tryd.prog W' sp s.vars (s.fn H (ds ++ gs)).vars pv)
    (hps : before = pa ++ pv) (hk : W.keptBut W' (· ∈ before)) (hfz : ∀ b off, MemPlace.cell b off ∈ before → W'.frozen? ⟨b, off, none⟩ = W.frozen? ⟨b, off, none⟩)
    (hok : ∀ (j : Nat) (t : TypeId) (r : Value), f.resultTypes[j]? = some t → (v.resultList f.resultTypes.size)[j]? = some r → Value.okWide Tryd.prog W' .any 0 t r) :
    s.post enc Tryd.prog f apart fresh handsOn again W args v W' := by
  have hold : ∀ p ∈ before, (fun b => decide (b < W.heap.size)) p.block = true := fun p hp => by simpa using hW.lt p hp
  refine ⟨ds, gs, before, [], pa, pv, hW, hres _ _ _, hargs _ hold, hvars _ hold, World.keptBut_mono (fun p hp => ⟨hp, ?_⟩) hk, fun _ => ?_⟩
  · rw [hps, List.mem_append] at hp
    exact Or.inr hp
  · obtain ⟨_, _, _, _, _, hz, hn⟩ := hW
    refine ⟨hok, _, _, ([] ++ pa) ++ pv, ⟨[] ++ pa, pv, trodAll_append (hargs _ (fun _ _ => rfl)) (hres _ _ _), hvars _ (fun _ _ => rfl), rfl, ?_, ?_⟩, ?_⟩
    · intro b off hp
      have hp : MemPlace.cell b off ∈ before := by rw [hps]; simpa using hp
      rw [hfz b off hp]
      exact hz b off hp
    · intro ha
      have := hn ha
      rw [hps] at this
      simpa using this
    · intro p hp _
      rw [hps]
      simpa using hp

theorem frozen_below {W W' : World} (h : Below W.heap.size W W') {b off : Nat} (hb : b < W.heap.size) : W'.frozen? ⟨b, off, none⟩ = W.frozen? ⟨b, off, none⟩ := by
  unfold World.frozen?
  rw [h.block b hb]

theorem lifted (os : Os) (started : os.Started) (H : Type) (enc : TypeId × Value → H) :
    ReturnsInHanded {} Tryd.checked os 3 .any (fun w args => (Rows.confSamesSpec.pre enc Tryd.prog Tryd.f3 [] false w args ∧ laidMetH Tryd.prog Rows.confSamesRow.laid w) ∧ sizedMet enc Tryd.prog Tryd.f3 (OpenSpec.ofChange Rows.confSamesSpec) false w args)
      (Rows.confSamesSpec.post enc Tryd.prog Tryd.f3 false true false false) := by
  refine returnsInHanded_of_change_and (C := Tryd.checked) (X := fun w _ => laidMetH Tryd.prog Rows.confSamesRow.laid w) (fun _ _ _ hh h => h.of_heap hh) own started (by kernel_rfl) Tryd.func3
    (ChangeSpec.witness_at (enc := enc) (C := Tryd.checked) (os := os) (X := fun w _ => laidMetH Tryd.prog Rows.confSamesRow.laid w) false (laidWorld os) #[.agg #[.int .i64 0, .slice none 0 0], .int .i64 0, .int .i64 0] 8 rfl (by kernel_rfl) (by kernel_rfl) (by kernel_rfl) (by kernel_rfl) (by kernel_rfl) (laidWorld_met os _)) ?_
  intro W base args ds gs before hval0 hW _ _ _ _
  have hval : ∀ (j : Nat) t v, Tryd.f3.params[j]? = some t → args[j]? = some v → Value.okWide Tryd.prog W .any base t v := hval0
  have hW' := hW
  obtain ⟨p, q, hA0, hV, rfl, hfz, hnd⟩ := hW
  have hA : DataW.TrodAll enc Tryd.prog W 0 (fun _ => true) true Tryd.f3.params.toList args.toList ds p := hA0
  rw [Tryd.params3] at hA hval
  obtain ⟨v0, vs0, d0, ds0, p0, q0, hargs, rfl, rfl, h0, r0⟩ := trodAll_cons hA
  obtain ⟨v1, vs1, d1, ds1, p1, q1, rfl, rfl, rfl, h1, r1⟩ := trodAll_cons r0
  obtain ⟨v2, vs2, d2, ds2, p2, q2, rfl, rfl, rfl, h2, r2⟩ := trodAll_cons r1
  obtain ⟨rfl, rfl, rfl⟩ := trodAll_nil r2
  obtain rfl : args = #[v0, v1, v2] := by cases args; simp_all
  obtain ⟨rfl, rfl⟩ := trodVars_none hV
  obtain ⟨o, zq, x, rfl, hraw⟩ := CS.open_raw (hval 0 24 v0 rfl rfl) h0
  obtain ⟨a1, rfl, rfl, rfl, w1⟩ := open_int Tryd.underlying3 (hval 1 3 v1 rfl rfl) h1
  obtain ⟨a2, rfl, rfl, rfl, w2⟩ := open_int Tryd.underlying3 (hval 2 3 v2 rfl rfl) h2
  clear hA0 hval0
  simp only [List.append_nil] at hW'
  have hlt : ∀ x ∈ p0, x.block < W.heap.size := fun x hx => by simpa using hW'.lt x hx
  refine (CS.walk0 hraw a1 a2).mono fun e W' ⟨he, hg⟩ => ?_
  subst he
  have hstay : ∀ sp : Nat → Bool, (∀ p ∈ p0, sp p.block = true) → DataW.Trod enc Tryd.prog W' 0 sp true 24 (.agg #[.int .i64 o.L, x]) d0 p0 := fun sp hsp =>
    WideElems.Trod_stays (P := Tryd.prog) f02 (by kernel_rfl) (of_decide_eq_true (by kernel_rfl)) h0 (fun y hy => hg.same (hlt y hy)) hsp
  refine ⟨_, rfl, post_of_kept (pa := p0) (pv := []) hW' (fun _ _ _ => (trodAll_cons_mk (shut_bool Tryd.underlying4 _) trodAll_mk0)) (fun sp hsp => ?_) (fun _ _ => rfl) (List.append_nil p0).symm
    (Below.frame hg _) (fun b off hp => frozen_below hg (hlt _ hp)) (ok_one (by kernel_rfl) rfl (okWide_bool_mk Tryd.underlying4 _))⟩
  rw [Tryd.params3]
  have := trodAll_cons_mk (hstay sp hsp) (trodAll_cons_mk (shut_int (base := 0) (spare := sp) (held := true) (enc := enc) (w := W') Tryd.underlying3 w1) (trodAll_cons_mk (shut_int (base := 0) (spare := sp) (held := true) (enc := enc) (w := W') Tryd.underlying3 w2) trodAll_mk0))
  have h3 : DataW.TrodAll enc Tryd.prog W' 0 sp true [24, 3, 3] [.agg #[.int .i64 o.L, x], .int .i64 a1, .int .i64 a2] [d0, .lit (.int .i64 a1), .lit (.int .i64 a2)] p0 := by simpa using this
  exact h3

theorem over : Rows.ConfSamesSaid :=
  OpenClaim.holds_of_wide 3 Tryd.f3 rfl rfl rfl rfl rfl rfl rfl ⟨rfl, rfl, rfl, rfl, rfl⟩ rfl rfl rfl rfl rfl named_at Tryd.func3 joined inst wrap
    (fun os started H enc _ => lifted os started H enc)

/-- THE STATEMENT: the tied card. -/
theorem card_holds : Rows.ConfSamesCardSaid :=
  Claim7.holds_tied_plain_at .later [] [.data, .data, .data, .data, .sentinel, .sentinel, .pinned] true (true, "bd45e907462b6828983af644a5aea92dbe7bd1f42956ccc3516e60ad12238fe7") true
    over (fun _ h => by cases h) wf_at (fun _ h => by cases h) confSames_row_tie rfl ⟨rfl, rfl⟩ main_at rfl
    (fun f fn hf hfn => by
      obtain rfl : f = 3 := Option.some.inj (named_at.symm.trans hf) |>.symm
      obtain rfl : fn = Tryd.f3 := (Option.some.inj (Tryd.func3.symm.trans hfn)).symm
      exact ⟨looks_at, fun j t ht => by
        rw [Tryd.params3] at ht
        have h3 : t = 24 ∨ t = 3 := by
          rcases j with _ | _ | _ | j
          · left; simpa using ht.symm
          · right; simpa using ht.symm
          · right; simpa using ht.symm
          · simp at ht
        rcases h3 with rfl | rfl
        · exact stand24
        · exact stand3⟩)
    goes_at
#print axioms card_holds
end Go.Proofs.YtaliknnfbjehhaaDoor
