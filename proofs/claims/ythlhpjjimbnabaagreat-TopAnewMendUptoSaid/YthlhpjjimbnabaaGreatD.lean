import Derived.Test.YthlhpjjimbnabaaGreatD1
import Derived.Test.YthlhpjjimbnabaaGreatD2
import Derived.Test.YthlhpjjimbnabaaGreatD3
import Derived.Test.YthlhpjjimbnabaaGreatD4
import Derived.Test.YthlhpjjimbnabaaGreatD5
import Derived.Test.YthlhpjjimbnabaaGreatA4
set_option linter.unusedSectionVars false
set_option linter.unusedVariables false
set_option linter.unusedSimpArgs false
section
namespace Go.Ax.Kr
open Go.Ax.Ir Go.Ax.K Go.Proofs
set_option maxRecDepth 100000
theorem mixOk : Tryz.prog.follows .mixedOrders = true := Tryz.checked.mixed
theorem tblAOk : TblOk Tryz.prog tblA := by
  intro f ifn h
  unfold tblA at h
  by_cases h5 : f = 5
  · subst h5; cases h; exact ⟨_, Tryz.func5, c5⟩
  · rw [if_neg h5] at h
    by_cases h38 : f = 38
    · subst h38; cases h; exact ⟨_, Tryz.func38, c38⟩
    · rw [if_neg h38] at h
      exact tblOk f ifn h
theorem ot0Ok : ∀ f, ∀ e ∈ ot0 f, e.f = f ∧ EntOk Tryz.prog e := by intro f e he; cases he
theorem ok0 : EntOk Tryz.prog en0 := runE_ok mixOk tblAOk tkO ot0Ok r0
theorem ok1 : EntOk Tryz.prog en1 := runE_ok mixOk tblAOk tkO ot0Ok r1
theorem ok2 : EntOk Tryz.prog en2 := runE_ok mixOk tblAOk tkO ot0Ok r2
theorem ok3 : EntOk Tryz.prog en3 := runE_ok mixOk tblAOk tkO ot0Ok r3
theorem ok4 : EntOk Tryz.prog en4 := runE_ok mixOk tblAOk tkO ot0Ok r4
theorem ok5 : EntOk Tryz.prog en5 := runE_ok mixOk tblAOk tkO ot0Ok r5
theorem ok6 : EntOk Tryz.prog en6 := runE_ok mixOk tblAOk tkO ot0Ok r6
theorem ok7 : EntOk Tryz.prog en7 := runE_ok mixOk tblAOk tkO ot0Ok r7
theorem ok8 : EntOk Tryz.prog en8 := runE_ok mixOk tblAOk tkO ot0Ok r8
theorem otAOk : ∀ f, ∀ e ∈ otA f, e.f = f ∧ EntOk Tryz.prog e := by
  intro f e he
  unfold otA at he
  by_cases h12 : f = 12
  · subst h12
    rcases (show e = en0 by simpa [ifB] using he) with rfl
    · exact ⟨rfl, ok0⟩
  rw [show Nat.beq f 12 = false from by cases hb : Nat.beq f 12 with | false => rfl | true => exact absurd (Nat.eq_of_beq_eq_true hb) h12] at he
  change e ∈ _ at he
  by_cases h17 : f = 17
  · subst h17
    rcases (show e = en1 by simpa [ifB] using he) with rfl
    · exact ⟨rfl, ok1⟩
  rw [show Nat.beq f 17 = false from by cases hb : Nat.beq f 17 with | false => rfl | true => exact absurd (Nat.eq_of_beq_eq_true hb) h17] at he
  change e ∈ _ at he
  by_cases h22 : f = 22
  · subst h22
    rcases (show e = en2 ∨ e = en3 by simpa [ifB] using he) with rfl | rfl
    · exact ⟨rfl, ok2⟩
    · exact ⟨rfl, ok3⟩
  rw [show Nat.beq f 22 = false from by cases hb : Nat.beq f 22 with | false => rfl | true => exact absurd (Nat.eq_of_beq_eq_true hb) h22] at he
  change e ∈ _ at he
  by_cases h27 : f = 27
  · subst h27
    rcases (show e = en4 ∨ e = en5 by simpa [ifB] using he) with rfl | rfl
    · exact ⟨rfl, ok4⟩
    · exact ⟨rfl, ok5⟩
  rw [show Nat.beq f 27 = false from by cases hb : Nat.beq f 27 with | false => rfl | true => exact absurd (Nat.eq_of_beq_eq_true hb) h27] at he
  change e ∈ _ at he
  by_cases h29 : f = 29
  · subst h29
    rcases (show e = en6 by simpa [ifB] using he) with rfl
    · exact ⟨rfl, ok6⟩
  rw [show Nat.beq f 29 = false from by cases hb : Nat.beq f 29 with | false => rfl | true => exact absurd (Nat.eq_of_beq_eq_true hb) h29] at he
  change e ∈ _ at he
  by_cases h31 : f = 31
  · subst h31
    rcases (show e = en7 by simpa [ifB] using he) with rfl
    · exact ⟨rfl, ok7⟩
  rw [show Nat.beq f 31 = false from by cases hb : Nat.beq f 31 with | false => rfl | true => exact absurd (Nat.eq_of_beq_eq_true hb) h31] at he
  change e ∈ _ at he
  by_cases h36 : f = 36
  · subst h36
    rcases (show e = en8 by simpa [ifB] using he) with rfl
    · exact ⟨rfl, ok8⟩
  rw [show Nat.beq f 36 = false from by cases hb : Nat.beq f 36 with | false => rfl | true => exact absurd (Nat.eq_of_beq_eq_true hb) h36] at he
  change e ∈ _ at he
  cases he
theorem awakeRun : trueO tk otA 60 38 0 [] = true := by kernel_rfl
theorem tabs0 (h : HP) : Tabs (mkH 0 []) h := by
  intro b o e
  have hm : (b, o) ∈ ([] : LB) := putLB_mem e
  cases hm
theorem awakeOk (h : HP) : CallOk Tryz.prog 38 [] h (.bool true) h := trueO_ok mixOk tblAOk tkO otAOk awakeRun (by intro k hk; cases hk) h (tabs0 h)
end Go.Ax.Kr
end
