/-
  TopAnewVan: whatever train, plan, van, crate, stop and minute come in, of bulk at most 1,048,576 together, the law returns true and what came in reads as it did.
  Conditions: none beyond those of the statement itself.
-/
import Derived.Test.YtofcejekdppbnaaD0
import Derived.Test.YtofcejekdppbnaaD1
import Derived.Test.YtofcejekdppbnaaD2
import Derived.Test.YtofcejekdppbnaaD3
import Derived.Test.YtofcejekdppbnaaD4
import Derived.Test.YtofcejekdppbnaaE2
import Derived.Test.YtofcejekdppbnaaA6
import Derived.WalkKit
import Derived.ProofKit
import Derived.OpenShut
import Derived.JoinedCond
import Derived.Carry
set_option linter.unusedSectionVars false
set_option linter.unusedVariables false
set_option linter.unusedSimpArgs false
section
namespace Go.Ax.Kr
open Go.Ax.Ir Go.Ax.K Go.Proofs
set_option maxRecDepth 100000
theorem mixOk : Try.prog.follows .mixedOrders = true := Try.checked.mixed
theorem tblAOk : TblOk Try.prog tblA := by
  intro f ifn h
  unfold tblA at h
  by_cases h5 : f = 5
  · subst h5; cases h; exact ⟨_, Try.func5, c5⟩
  · rw [if_neg h5] at h
    by_cases h38 : f = 38
    · subst h38; cases h; exact ⟨_, Try.func38, c38⟩
    · rw [if_neg h38] at h
      exact tblOk f ifn h
theorem ot0Ok : ∀ f, ∀ e ∈ ot0 f, e.f = f ∧ EntOk Try.prog e := by intro f e he; cases he
theorem ok7 : EntOk Try.prog en7 := runE_ok mixOk tblAOk tkO ot0Ok r7
theorem ok8 : EntOk Try.prog en8 := runE_ok mixOk tblAOk tkO ot0Ok r8
theorem ok10 : EntOk Try.prog en10 := runE_ok mixOk tblAOk tkO ot0Ok r10
theorem ok11 : EntOk Try.prog en11 := runE_ok mixOk tblAOk tkO ot0Ok r11
theorem ot33Ok : ∀ f, ∀ e ∈ ot33 f, e.f = f ∧ EntOk Try.prog e := by
  intro f e he
  unfold ot33 at he
  by_cases h62 : f = 62
  · subst h62
    rcases (show e = en7 ∨ e = en8 ∨ e = en10 ∨ e = en11 by simpa [ifB] using he) with rfl | rfl | rfl | rfl
    · exact ⟨rfl, ok7⟩
    · exact ⟨rfl, ok8⟩
    · exact ⟨rfl, ok10⟩
    · exact ⟨rfl, ok11⟩
  rw [show Nat.beq f 62 = false from by cases hb : Nat.beq f 62 with | false => rfl | true => exact absurd (Nat.eq_of_beq_eq_true hb) h62] at he
  change e ∈ _ at he
  cases he
theorem ok0 : EntOk Try.prog en0 := runE_ok mixOk tblAOk tkO ot0Ok r0
theorem ok1 : EntOk Try.prog en1 := runE_ok mixOk tblAOk tkO ot0Ok r1
theorem ok2 : EntOk Try.prog en2 := runE_ok mixOk tblAOk tkO ot0Ok r2
theorem ok3 : EntOk Try.prog en3 := runE_ok mixOk tblAOk tkO ot0Ok r3
theorem ok4 : EntOk Try.prog en4 := runE_ok mixOk tblAOk tkO ot0Ok r4
theorem ok5 : EntOk Try.prog en5 := runE_ok mixOk tblAOk tkO ot0Ok r5
theorem ok6 : EntOk Try.prog en6 := runE_ok mixOk tblAOk tkO ot0Ok r6
theorem ok9 : EntOk Try.prog en9 := runE_ok mixOk tblAOk tkO ot33Ok r9
theorem ok12 : EntOk Try.prog en12 := runE_ok mixOk tblAOk tkO ot33Ok r12
theorem ok13 : EntOk Try.prog en13 := runE_ok mixOk tblAOk tkO ot0Ok r13
theorem ok14 : EntOk Try.prog en14 := runE_ok mixOk tblAOk tkO ot0Ok r14
theorem otAOk : ∀ f, ∀ e ∈ otA f, e.f = f ∧ EntOk Try.prog e := by
  intro f e he
  unfold otA at he
  by_cases h12 : f = 12
  · subst h12
    rcases (show e = en0 by simpa [ifB] using he) with rfl
    · exact ⟨rfl, ok0⟩
  rw [show Nat.beq f 12 = false from by cases hb : Nat.beq f 12 with | false => rfl | true => exact absurd (Nat.eq_of_beq_eq_true hb) h12] at he
  change e ∈ _ at he
  by_cases h17 : f = 17
  · subst h17
    rcases (show e = en1 by simpa [ifB] using he) with rfl
    · exact ⟨rfl, ok1⟩
  rw [show Nat.beq f 17 = false from by cases hb : Nat.beq f 17 with | false => rfl | true => exact absurd (Nat.eq_of_beq_eq_true hb) h17] at he
  change e ∈ _ at he
  by_cases h22 : f = 22
  · subst h22
    rcases (show e = en2 ∨ e = en3 ∨ e = en14 by simpa [ifB] using he) with rfl | rfl | rfl
    · exact ⟨rfl, ok2⟩
    · exact ⟨rfl, ok3⟩
    · exact ⟨rfl, ok14⟩
  rw [show Nat.beq f 22 = false from by cases hb : Nat.beq f 22 with | false => rfl | true => exact absurd (Nat.eq_of_beq_eq_true hb) h22] at he
  change e ∈ _ at he
  by_cases h24 : f = 24
  · subst h24
    rcases (show e = en4 by simpa [ifB] using he) with rfl
    · exact ⟨rfl, ok4⟩
  rw [show Nat.beq f 24 = false from by cases hb : Nat.beq f 24 with | false => rfl | true => exact absurd (Nat.eq_of_beq_eq_true hb) h24] at he
  change e ∈ _ at he
  by_cases h27 : f = 27
  · subst h27
    rcases (show e = en5 by simpa [ifB] using he) with rfl
    · exact ⟨rfl, ok5⟩
  rw [show Nat.beq f 27 = false from by cases hb : Nat.beq f 27 with | false => rfl | true => exact absurd (Nat.eq_of_beq_eq_true hb) h27] at he
  change e ∈ _ at he
  by_cases h30 : f = 30
  · subst h30
    rcases (show e = en6 by simpa [ifB] using he) with rfl
    · exact ⟨rfl, ok6⟩
  rw [show Nat.beq f 30 = false from by cases hb : Nat.beq f 30 with | false => rfl | true => exact absurd (Nat.eq_of_beq_eq_true hb) h30] at he
  change e ∈ _ at he
  by_cases h33 : f = 33
  · subst h33
    rcases (show e = en9 ∨ e = en12 by simpa [ifB] using he) with rfl | rfl
    · exact ⟨rfl, ok9⟩
    · exact ⟨rfl, ok12⟩
  rw [show Nat.beq f 33 = false from by cases hb : Nat.beq f 33 with | false => rfl | true => exact absurd (Nat.eq_of_beq_eq_true hb) h33] at he
  change e ∈ _ at he
  by_cases h36 : f = 36
  · subst h36
    rcases (show e = en13 by simpa [ifB] using he) with rfl
    · exact ⟨rfl, ok13⟩
  rw [show Nat.beq f 36 = false from by cases hb : Nat.beq f 36 with | false => rfl | true => exact absurd (Nat.eq_of_beq_eq_true hb) h36] at he
  change e ∈ _ at he
  cases he
theorem awakeRun : trueO tk otA 60 38 = true := by kernel_rfl
theorem awakeOk (h : HP) : CallOk Try.prog 38 [] h (.bool true) h := trueO_ok mixOk tblAOk tkO otAOk awakeRun h
end Go.Ax.Kr
end
section
namespace Go.Proofs.Ytofcejekdppbnaa.topAnewVan
open Go.ChangeShapes Go.WideShapes Go.ChangeAt Go.RowKit
open Go.Ax Go.Ax.Ir
set_option maxRecDepth 100000
theorem own : ownKnob Try.prog.godebug = none := by kernel_rfl
theorem ftOk : FtOk Try.prog rft := rootFt_ok Kr.mixOk tblOk Try.func5 c5 rfl Kr.awakeOk
theorem laid : laidOutB Try.prog = true := by kernel_rfl
theorem walk {H : Type} {enc : TypeId × Value → H} {W : World} {base : Nat} {v0 : Value} {d : DataW H} {ps : List MemPlace} (hok : Value.okWide Try.prog W .any base 29 v0)
    (hd : DataW.Trod enc Try.prog W 0 (fun _ => true) true 29 v0 d ps) (hb : Rows.uptoBulk d ≤ 1048576) : Calls Try.prog 3 #[v0] W fun e w' => e = .returned (.bool true) ∧ Below W.heap.size W w' :=
  root_calls (F := 20) (tys := tyAnew) Kr.mixOk ftOk (by kernel_rfl) Try.underlying29 (fun g vs b h1 h2 h3 => f3 h1 h2 h3) hok hd hb
theorem contract (H : Type) (enc : TypeId × Value → H) (W : World) (base : Nat) (args : Array Value) (ds gs : List (DataW H)) (before : List MemPlace)
    (hval : ∀ (j : Nat) t v, Try.f3.params[j]? = some t → args[j]? = some v → Value.okWide Try.prog W .any base t v)
    (hW : DataW.Whole enc Try.prog Try.f3.params.toList Rows.topAnewVanSpec.vars false W args.toList ds gs before) (hk : Rows.uptoSmall H (ds ++ gs) = true) :
    Calls Try.prog 3 args W fun e W' => ∃ v, e = .returned v ∧ Rows.topAnewVanSpec.post enc Try.prog Try.f3 false true false false W args v W' := by
  have hW' := hW
  obtain ⟨p, q, hA0, hV, rfl, hfz, hnd⟩ := hW
  have hA : DataW.TrodAll enc Try.prog W 0 (fun _ => true) true Try.f3.params.toList args.toList ds p := hA0
  rw [Try.params3] at hA hval
  obtain ⟨v0, vs0, d0, ds0, p0, q0, hargs, rfl, rfl, h0, r0⟩ := trodAll_cons hA
  obtain ⟨rfl, rfl, rfl⟩ := trodAll_nil r0
  obtain rfl : args = #[v0] := by cases args; simp_all
  obtain ⟨rfl, rfl⟩ := trodVars_none hV
  clear hA0
  have hlt := hW'.lt
  simp only [List.append_nil] at hW' hk hlt
  have hb : Rows.uptoBulk d0 ≤ 1048576 := by
    have h : Rows.uptoBulkAll [d0] ≤ 1048576 := of_decide_eq_true hk
    simp only [Rows.uptoBulkAll] at h
    omega
  refine (walk (hval 0 29 v0 rfl rfl) h0 hb).mono fun e W' ⟨he, hg⟩ => ?_
  subst he
  refine ⟨_, rfl, [d0], [], p0, [], p0, [], by simpa using hW', trodAll_cons_mk (shut_bool Try.underlying4 _) trodAll_mk0, ?_, rfl, World.keptBut_mono (fun x hx => ⟨hx, Or.inr (Or.inl hx)⟩) (hg.frame (· ∈ p0)), fun h => by cases h⟩
  have := trodAll_cons_mk (WideElems.Trod_stays laid (by kernel_rfl) (of_decide_eq_true (by kernel_rfl)) h0 (fun x hx => hg.same (hlt x hx)) (fun x hx => by simpa using hlt x hx)) (trodAll_mk0 (enc := enc) (P := Try.prog) (w := W') (base := 0) (spare := fun b => decide (b < W.heap.size)) (held := true))
  rw [List.append_nil] at this
  exact this
set_option maxRecDepth 100000 in
theorem lifted (os : Os) (started : os.Started) (H : Type) (enc : TypeId × Value → H) (F : Stop.Interp) :
    ReturnsInHanded {} Try.checked os 3 .any ((Rows.OpenSpec.upto Rows.topAnewVanSpec).pre6 enc Try.prog Try.f3 Rows.topAnewVanUptoRow.domain false) (((Rows.OpenSpec.upto Rows.topAnewVanSpec).at F).post enc Try.prog Try.f3 false true false false) := by
  refine returnsInHanded_of_cond (C := Try.checked) (s := Rows.OpenSpec.upto Rows.topAnewVanSpec) (k := Rows.uptoSmall) rfl own started (by kernel_rfl) Try.func3
    (OpenSpec.witness (enc := enc) (C := Try.checked) (s := Rows.OpenSpec.upto Rows.topAnewVanSpec) (k := Rows.uptoSmall) rfl false ⟨#[], #[.agg #[.slice none 0 0, .int .i64 0, .int .i64 0, .slice none 0 0, .slice none 0 0, .slice none 0 0, .int .i64 0, .int .i64 0, .int .i64 0, .int .i64 0]], []⟩ 8 (by kernel_rfl) (by kernel_rfl) (by kernel_rfl)
      (x := ([.agg [.agg [.nil, .lit (.int .i64 0), .lit (.int .i64 0), .nil, .nil], .nil, .lit (.int .i64 0), .lit (.int .i64 0), .lit (.int .i64 0), .lit (.int .i64 0)]], [], [])) (by kernel_rfl) rfl (by kernel_rfl)) ?_
  intro W base args ds gs before hval hW _ hk _
  exact contract H enc W base args ds gs before hval hW hk
theorem proved : Rows.TopAnewVanUptoSaid :=
  OpenClaim.holds_of_cond 3 Try.f3 rfl rfl rfl rfl rfl rfl rfl ⟨rfl, rfl, rfl, rfl, rfl⟩ rfl rfl rfl rfl rfl (by kernel_rfl) Try.func3 (by kernel_rfl)
    (of_decide_eq_true (by kernel_rfl)) (by unfold Func.isWrapper; first | (rw [if_pos (by decide +kernel)]; kernel_rfl) | (rw [if_neg (by decide +kernel)]; exact ⟨rfl, rfl⟩))
    (fun os started H enc _ F => lifted os started H enc F)
#print axioms proved
end Go.Proofs.Ytofcejekdppbnaa.topAnewVan
end
